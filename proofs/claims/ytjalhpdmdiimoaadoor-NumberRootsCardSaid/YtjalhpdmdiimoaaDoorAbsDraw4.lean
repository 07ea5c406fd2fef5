/- A region whose operations may come in more than one order: one step of any order. -/
import Derived.Test.YtjalhpdmdiimoaaDoorAbsDraw3
set_option linter.unusedSimpArgs false
set_option linter.unusedVariables false
namespace Go.Abs

theorem Eff.upd_touched {g g2 : Nat → Option Blk} {id x : Nat} {e : Eff} (h : x ∈ e.writes ∨ (e.pushes = true ∧ x = id)) : e.upd g id x = e.upd g2 id x := by
  cases e with
  | none => rcases h with h | h <;> simp [Eff.writes, Eff.pushes] at h
  | push b => rcases h with h | h <;> simp [Eff.writes, Eff.pushes] at h; subst h; simp [Eff.upd]
  | write i b => rcases h with h | h <;> simp [Eff.writes, Eff.pushes] at h; subst h; simp [Eff.upd]
  | move i b => rcases h with h | h <;> simp [Eff.writes, Eff.pushes] at h <;> subst h <;> simp [Eff.upd]

theorem Eff.upd_other {g : Nat → Option Blk} {id x : Nat} {e : Eff} (h1 : x ∉ e.writes) (h2 : ¬ (e.pushes = true ∧ x = id)) : e.upd g id x = g x := by
  cases e with
  | none => rfl
  | push b => simp [Eff.pushes] at h2; simp [Eff.upd, h2]
  | write i b => simp [Eff.writes] at h1; simp [Eff.upd, h1]
  | move i b => simp [Eff.writes] at h1; simp [Eff.pushes] at h2; simp [Eff.upd, h1, h2]

theorem isL_set {l : Array Bool} {i j : Nat} (hj : j < l.size) : isL (l.setIfInBounds j true) i ↔ isL l i ∨ i = j := by
  unfold isL
  by_cases h : j = i
  · subst h; simp [Array.getD_eq_getD_getElem?, hj]
  · simp only [Array.getD_eq_getD_getElem?]
    rw [Array.getElem?_setIfInBounds_ne h]
    constructor
    · exact .inl
    · rintro (q | q)
      · exact q
      · exact absurd q.symm h

section
variable {P : Program} {X : Fix} {C : Ctx} {ops : Array Oper} {es : List EOper} {st st' : St}

/-- What may come next. -/
structure Next (R : Reg P X C ops es st st') (l : Array Bool) (j : Nat) : Prop where
  lt : j < ops.size
  out : ¬ isL l j
  edges : ∀ o, ops[j]? = some o → ∀ e ∈ o.after, Region.binds .any e = true → isL l e.on

theorem next_of_ready (R : Reg P X C ops es st st') {l : Array Bool} {j : Nat} (h : j ∈ Region.ready .any ops l) (hs : l.size = ops.size) : Next R l j := by
  unfold Region.ready at h
  rw [List.mem_filter] at h
  obtain ⟨h1, h2⟩ := h
  have hj : j < ops.size := by simpa using h1
  simp only [Bool.and_eq_true, Bool.not_eq_true'] at h2
  refine ⟨hj, ?_, ?_⟩
  · intro q
    unfold isL at q
    have h3 := h2.1
    rw [Array.getD_eq_getD_getElem?, Array.getElem?_eq_getElem (by omega)] at q h3
    simp at q h3
    rw [h3] at q; cases q
  · intro o ho e he hb
    have h3 := h2.2
    rw [ho] at h3
    simp only [Option.map_some, Option.getD_some] at h3
    have := Array.all_eq_true_iff_forall_mem.1 h3 e he
    simpa [hb, isL] using this

theorem Next.before {R : Reg P X C ops es st st'} {l : Array Bool} {j : Nat} (N : Next R l j) (hc : ClosedL ops l) {i : Nat} (h : ((Region.before ops).getD j 0).testBit i = true) : isL l i :=
  before_listed hc j N.lt N.edges i h

theorem Next.later {R : Reg P X C ops es st st'} {l : Array Bool} {j : Nat} (N : Next R l j) (hc : ClosedL ops l) {i : Nat} (hi : i < ops.size) (h : ((Region.before ops).getD i 0).testBit j = true) : ¬ isL l i := by
  intro q
  exact N.out (before_listed hc i hi (fun o ho e he hb => hc i o q ho e he hb) j h)

/-- The relation behind a step. -/
theorem dinv_next {R : Reg P X C ops es st st'} {l : Array Bool} {a : Act} {w : World} {j : Nat} (N : Next R l j) (hcl : ClosedL ops l) (hsl : l.size = ops.size) (hframe : Frame X.Own X.w0 w) (hdef : a.defers = []) (hsize : a.tmps.size = X.n)
    {ρ : Ren} {o : Oper} (ho : ops[j]? = some o)
    (hF : ∀ j0 t u, j0 ≤ ops.size → (R.T.F j0).get t = some u → cutT ops l t j0 → ∃ v', a.tmps[t]? = some v' ∧ VRel ρ u v')
    (hdom : ∀ x L, ρ x = some L → x < (R.T.H 0).length ∨ ∃ j, j < ops.size ∧ isL l j ∧ (R.T.H j).length ≤ x ∧ x < (R.T.H (j + 1)).length)
    (h0 : ∀ i, i < X.h0.length → ρ i = X.ρ0 i) (hnew : ∀ i L, ρ i = some L → X.h0.length ≤ i → X.Own L.blk)
    (hwr : ∀ i x, i < ops.size → isL l i → x ∈ R.T.WR i → ∃ L, ρ x = some L)
    {ρ' : Ren} {g' : Nat → Option Blk} {v' : Value} {w' : World} (hle : ρ.le ρ') (hv : VRel ρ' (R.T.V j) v') (hs' : Sim X.Own ρ' g' w') (hfr : Frame X.Own w w')
    (hcut : ∀ x j0 b L, j0 ≤ ops.size → R.cut (l.setIfInBounds j true) x j0 → (R.T.H j0).get x = some b → ρ' x = some L → g' x = some b)
    (hdom' : ∀ x L, ρ' x = some L → ρ x = some L ∨ ((R.T.H j).length ≤ x ∧ x < (R.T.H (j + 1)).length ∧ X.Own L.blk))
    (hwr' : ∀ x ∈ R.T.WR j, ∃ L, ρ' x = some L) : DInv R (l.setIfInBounds j true) (a.put o.dst v') w' := by
  have hj := N.lt
  have hjl : j < l.size := by omega
  obtain ⟨o', e, ho', he, hok, _⟩ := R.op hj
  rw [ho] at ho'; cases ho'
  refine ⟨⟨ρ', g', ?_, hs', hcut, ?_, ?_, ?_, ?_⟩, ?_, by simpa using hsl, hframe.trans hfr, by rw [put_defers']; exact hdef, by rw [put_size]; exact hsize⟩
  · intro j0 t u hj0 hu hct
    by_cases hd : o.dst = some t
    · have hlt : j < j0 := (hct j o ho hd).1 ((isL_set hjl).2 (.inr rfl))
      have hun : (R.T.F j0).get t = (R.T.F (j + 1)).get t := by
        refine unwritten_get (fun j e he => R.T.next j e he) R.len j0 (by omega) hj0 fun k ek h1 h2 hek hdk => ?_
        obtain ⟨ok, ek', hok', hek', hokk, _⟩ := R.op (show k < ops.size by omega)
        rw [hek] at hek'; cases hek'
        have hdk' : ok.dst = some t := by rw [← hokk.dst]; exact hdk
        have hLk : isL l k := by
          rcases (isL_set hjl).1 ((hct k ok hok' hdk').2 h2) with q | q
          · exact q
          · omega
        rcases R.pair (show j < k by omega) (by omega) ho hok' he hek with q | ⟨q, _⟩
        · exact N.later hcl (by omega) q hLk
        · exact (Oper.apart_spec q).2.1 t hd hdk'
      rw [hun, R.T.next j e he, hok.dst, hd, put_get_eq] at hu
      cases hu
      refine ⟨v', ?_, hv⟩
      have := hok.fits t hd
      simp [Act.put, hd, hsize, this]
    · obtain ⟨u', q1, q2⟩ := hF j0 t u hj0 hu (fun i oi hoi hdi => by
        have := hct i oi hoi hdi
        rw [isL_set hjl] at this
        have hne : i ≠ j := fun q => by subst q; rw [ho] at hoi; cases hoi; exact hd hdi
        simpa [hne] using this)
      refine ⟨u', ?_, q2.mono hle⟩
      cases hdd : o.dst with
      | none => simpa [Act.put] using q1
      | some d =>
        have : d ≠ t := fun q => hd (by rw [hdd, q])
        simp only [Act.put]
        rw [Array.getElem?_setIfInBounds_ne this]; exact q1
  · intro x L hx
    rcases hdom' x L hx with q | ⟨q1, q2, _⟩
    · rcases hdom x L q with p | ⟨k, p1, p2, p3⟩
      · exact .inl p
      · exact .inr ⟨k, p1, (isL_set hjl).2 (.inl p2), p3⟩
    · exact .inr ⟨j, hj, (isL_set hjl).2 (.inr rfl), q1, q2⟩
  · intro i hi
    have hb := (R.base_le j (by omega)).1
    cases q : ρ' i with
    | none =>
      cases q2 : ρ i with
      | none => rw [← h0 i hi]; exact q2.symm
      | some L => rw [hle i L q2] at q; cases q
    | some L =>
      rcases hdom' i L q with p | ⟨p, _⟩
      · rw [← h0 i hi]; exact p.symm
      · omega
  · intro i L hi hb
    rcases hdom' i L hi with p | ⟨_, _, p⟩
    · exact hnew i L p hb
    · exact p
  · intro i x hi hl hx
    rcases (isL_set hjl).1 hl with q | q
    · obtain ⟨L, hL⟩ := hwr i x hi q hx
      exact ⟨L, hle x L hL⟩
    · subst q; exact hwr' x hx
  · intro i oi hl hoi ei hei hb
    have : isL (l.setIfInBounds j true) ei.on := by
      rw [isL_set hjl]
      rcases (isL_set hjl).1 hl with q | q
      · exact .inl (hcl i oi q hoi ei hei hb)
      · subst q; exact .inl (N.edges oi hoi ei hei hb)
    exact this

theorem tmp_looks {o : Oper} {t : Tmp} (h : Operand.tmp t ∈ o.op.operands) : t ∈ Oper.looksAt ops o := by
  unfold Oper.looksAt
  simp only [List.mem_append, List.mem_filterMap]
  left
  exact ⟨.tmp t, by simpa using h, rfl⟩

theorem guard_looks {o og : Oper} {g : Nat} {b : Bool} {d : Tmp} (hg : o.guard = some (g, b)) (ho : ops[g]? = some og) (hd : og.dst = some d) : d ∈ Oper.looksAt ops o := by
  unfold Oper.looksAt
  simp only [List.mem_append]
  right
  rw [hg]
  simp [ho, hd]

/-- Of a slot that an operation looks at just what stands ahead of it in the text has been written. -/
theorem Next.cutT {R : Reg P X C ops es st st'} {l : Array Bool} {j : Nat} (N : Next R l j) (hc : ClosedL ops l) {o : Oper} (ho : ops[j]? = some o) {t : Tmp} (ht : t ∈ Oper.looksAt ops o) : cutT ops l t j := by
  have hj := N.lt
  obtain ⟨o', e, ho', he, hok, _⟩ := R.op hj
  rw [ho] at ho'; cases ho'
  intro i oi hoi hd
  have hi : i < ops.size := (Array.getElem?_eq_some_iff.1 hoi).1
  obtain ⟨oi', ei, hoi', hei, _, _⟩ := R.op hi
  rw [hoi] at hoi'; cases hoi'
  rcases Nat.lt_trichotomy i j with q | q | q
  · refine ⟨fun _ => q, fun _ => ?_⟩
    rcases R.pair q hj hoi ho hei he with p | ⟨p, _⟩
    · exact N.before hc p
    · exact absurd ht ((Oper.apart_spec p).1 t hd)
  · subst q
    exact ⟨fun p => absurd p N.out, fun p => by omega⟩
  · refine ⟨fun p => ?_, fun p => by omega⟩
    exfalso
    rcases R.pair q hi ho hoi he hei with r | ⟨r, _⟩
    · exact N.later hc hi r p
    · exact (Oper.apart_spec r).2.2 t hd ht

theorem Next.wanted {R : Reg P X C ops es st st'} {l : Array Bool} {a : Act} {j : Nat} (N : Next R l j) (hc : ClosedL ops l) {o : Oper} (ho : ops[j]? = some o) {ρ : Ren}
    (hF : ∀ j0 t u, j0 ≤ ops.size → (R.T.F j0).get t = some u → Abs.cutT ops l t j0 → ∃ v', a.tmps[t]? = some v' ∧ VRel ρ u v') : Region.wanted o (yielded ops a.tmps) = R.T.Wn j := by
  have hj := N.lt
  obtain ⟨o', e, ho', he, hok, hgd⟩ := R.op hj
  rw [ho] at ho'; cases ho'
  have hw := R.T.wanted j e he
  unfold compileGuard at hgd
  split at hgd
  · rename_i hg
    have he2 := Option.some.inj hgd
    rw [← he2] at hw
    simp only [EOper.wanted, Option.some.injEq] at hw
    unfold Region.wanted
    rw [hg, ← hw]
  · rename_i g b hg
    split at hgd
    · rename_i og hog
      split at hgd
      · rename_i d hd
        have he2 := Option.some.inj hgd
        rw [← he2] at hw
        simp only [EOper.wanted] at hw
        unfold Region.wanted
        rw [hg]
        simp only
        have hcut := N.cutT hc ho (guard_looks (ops := ops) hg hog hd)
        split at hw
        · rename_i b' hb'
          obtain ⟨v', q1, q2⟩ := hF j d _ (by omega) hb' hcut
          obtain rfl := q2.bool_inv
          have hw2 := Option.some.inj hw
          rw [← hw2]
          simp [yielded, hog, hd, q1]
        · rename_i cs hu
          split at hw
          · rename_i hcs
            obtain ⟨v', q1, q2⟩ := hF j d _ (by omega) hu hcut
            obtain ⟨ys, rfl, hy⟩ := q2.tuple_inv
            have hw2 := Option.some.inj hw
            rw [← hw2]
            simp [yielded, hog, hd, q1]
          · cases hw
        · cases hw
      · cases hgd
    · cases hgd
end
end Go.Abs
