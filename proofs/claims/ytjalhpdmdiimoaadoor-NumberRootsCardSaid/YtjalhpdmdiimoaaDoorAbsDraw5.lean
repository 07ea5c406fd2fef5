/- A region whose operations may come in more than one order: all orders. -/
import Derived.Test.YtjalhpdmdiimoaaDoorAbsDraw4
set_option linter.unusedSimpArgs false
set_option linter.unusedVariables false
namespace Go.Abs
section
variable {P : Program} {X : Fix} {C : Ctx} {ops : Array Oper} {es : List EOper} {st st' : St}

/-- Of a block that a plain operation looks at just what stands ahead of it in the text has been written. -/
theorem Next.cut_plain {R : Reg P X C ops es st st'} {l : Array Bool} {j : Nat} (N : Next R l j) (hc : ClosedL ops l) {e : EOper} (he : es[j]? = some e) (_hw : R.T.Wn j = true) (_hk1 : e.kind ≠ .C) (_hk2 : e.kind ≠ .F)
    (F : ExecFacts C (R.T.F j) e (R.T.H j) (R.T.H (j + 1)) (R.T.V j) (R.T.RD j) (R.T.WR j)) {ρ : Ren}
    (hdom : ∀ x L, ρ x = some L → x < (R.T.H 0).length ∨ ∃ j, j < ops.size ∧ isL l j ∧ (R.T.H j).length ≤ x ∧ x < (R.T.H (j + 1)).length)
    {x : Nat} {L : Loc} (hx : x ∈ R.T.RD j ++ R.T.WR j) (hL : ρ x = some L) : R.cut l x j := by
  have hj := N.lt
  obtain ⟨o, e', ho, he', _, _⟩ := R.op hj
  rw [he] at he'; cases he'
  obtain ⟨b, hb⟩ := F.live x hx
  have hlt := Heap.get_lt hb
  have hkj : e.kind = .R ∨ e.kind = .W ∨ e.kind = .M := by
    rcases List.mem_append.1 hx with q | q
    · rcases F.rdk x q with p | p
      · exact .inl p
      · exact .inr (.inr p)
    · exact .inr (F.wrk x q)
  intro i hi ht
  obtain ⟨oi, ei, hoi, hei, _, _⟩ := R.op hi
  obtain ⟨hwi, hti⟩ := R.touch_kind hi hei ht
  rcases Nat.lt_trichotomy i j with q | q | q
  · refine ⟨fun _ => q, fun _ => ?_⟩
    rcases R.pair q hj hoi ho hei he with p | ⟨_, p⟩
    · exact N.before hc p
    · rcases hti with ⟨t1, t2⟩ | ⟨t1, t2, _⟩ | t
      · exfalso
        have hp : Cls.pair ei.kind e.kind = some true ∨ Cls.pair ei.kind e.kind = none := by
          rcases t2 with r | r <;> rcases hkj with s | s | s <;> rw [r, s] <;> simp [Cls.pair]
        rcases p with p | ⟨_, p1, p2⟩
        · rw [p] at hp; simp at hp
        · obtain ⟨a1, a2⟩ := R.apart q hj hei he p1 p2
          rcases List.mem_append.1 hx with m | m
          · exact a2 x t1 m
          · exact (a1 x m).2 t1
      · rcases hdom x L hL with r | ⟨k, r1, r2, r3, r4⟩
        · have := (R.base_le i (by omega)).2 0 (by omega); omega
        · rw [R.born_once hi r1 t1 t2 r3 r4]; exact r2
      · exfalso
        rw [t] at p
        rcases hkj with s | s | s <;> rw [s] at p <;> simp [Cls.pair] at p
  · subst q
    exact ⟨fun p => absurd p N.out, fun p => by omega⟩
  · refine ⟨fun hli => ?_, fun p => by omega⟩
    exfalso
    rcases R.pair q hi ho hoi he hei with p | ⟨_, p⟩
    · exact N.later hc hi p hli
    · rcases hti with ⟨t1, t2⟩ | ⟨t1, t2, _⟩ | t
      · have hp : Cls.pair e.kind ei.kind = some true ∨ Cls.pair e.kind ei.kind = none := by
          rcases t2 with r | r <;> rcases hkj with s | s | s <;> rw [r, s] <;> simp [Cls.pair]
        rcases p with p | ⟨_, p1, p2⟩
        · rw [p] at hp; simp at hp
        · obtain ⟨a1, a2⟩ := R.apart q hi he hei p1 p2
          rcases List.mem_append.1 hx with m | m
          · exact (a1 x t1).1 m
          · exact (a1 x t1).2 m
      · have := (R.base_le i (by omega)).2 j (by omega); omega
      · rw [t] at p
        rcases hkj with s | s | s <;> rw [s] at p <;> simp [Cls.pair] at p

/-- A block that is known and was there ahead of a call: just what stands ahead of the call in the text has been written. -/
theorem Next.cut_call {R : Reg P X C ops es st st'} {l : Array Bool} {j : Nat} (N : Next R l j) (hc : ClosedL ops l) {e : EOper} (he : es[j]? = some e) (hk : e.kind = .C ∨ e.kind = .F) {ρ : Ren}
    (hdom : ∀ x L, ρ x = some L → x < (R.T.H 0).length ∨ ∃ j, j < ops.size ∧ isL l j ∧ (R.T.H j).length ≤ x ∧ x < (R.T.H (j + 1)).length)
    {x : Nat} {L : Loc} (hx : x < (R.T.H j).length) (hL : ρ x = some L) : R.cut l x j := by
  have hj := N.lt
  obtain ⟨o, e', ho, he', _, _⟩ := R.op hj
  rw [he] at he'; cases he'
  intro i hi ht
  obtain ⟨oi, ei, hoi, hei, _, _⟩ := R.op hi
  obtain ⟨hwi, hti⟩ := R.touch_kind hi hei ht
  rcases Nat.lt_trichotomy i j with q | q | q
  · refine ⟨fun _ => q, fun _ => ?_⟩
    rcases R.pair q hj hoi ho hei he with p | ⟨_, p⟩
    · exact N.before hc p
    · rcases hti with ⟨t1, t2⟩ | ⟨t1, t2, _⟩ | t
      · exfalso
        rcases t2 with r | r <;> rcases hk with s | s <;> rw [r, s] at p <;> simp [Cls.pair] at p
      · rcases hdom x L hL with r | ⟨k, r1, r2, r3, r4⟩
        · have := (R.base_le i (by omega)).2 0 (by omega); omega
        · rw [R.born_once hi r1 t1 t2 r3 r4]; exact r2
      · exfalso
        rcases hk with s | s <;> rw [t, s] at p <;> simp [Cls.pair] at p
  · subst q
    exact ⟨fun p => absurd p N.out, fun p => by omega⟩
  · refine ⟨fun hli => ?_, fun p => by omega⟩
    exfalso
    rcases R.pair q hi ho hoi he hei with p | ⟨_, p⟩
    · exact N.later hc hi p hli
    · rcases hti with ⟨t1, t2⟩ | ⟨t1, t2, _⟩ | t
      · rcases t2 with r | r <;> rcases hk with s | s <;> rw [r, s] at p <;> simp [Cls.pair] at p
      · have := (R.base_le i (by omega)).2 j (by omega); omega
      · rcases hk with s | s <;> rw [t, s] at p <;> simp [Cls.pair] at p

/-- Ahead of a call all that is known was made ahead of it in the text. -/
theorem Next.dom_call {R : Reg P X C ops es st st'} {l : Array Bool} {j : Nat} (N : Next R l j) (hc : ClosedL ops l) {e : EOper} (he : es[j]? = some e) (hk : e.kind = .C ∨ e.kind = .F) {ρ : Ren}
    (hdom : ∀ x L, ρ x = some L → x < (R.T.H 0).length ∨ ∃ j, j < ops.size ∧ isL l j ∧ (R.T.H j).length ≤ x ∧ x < (R.T.H (j + 1)).length)
    {x : Nat} {L : Loc} (hL : ρ x = some L) : x < (R.T.H j).length := by
  have hj := N.lt
  obtain ⟨o, e', ho, he', _, _⟩ := R.op hj
  rw [he] at he'; cases he'
  rcases hdom x L hL with r | ⟨i, hi, hli, r3, r4⟩
  · have := (R.base_le j (by omega)).2 0 (by omega); omega
  · rcases Nat.lt_trichotomy i j with q | q | q
    · have := (R.base_le j (by omega)).2 (i + 1) (by omega); omega
    · subst q; exact absurd hli N.out
    · exfalso
      obtain ⟨oi, ei, hoi, hei, _, _⟩ := R.op hi
      obtain ⟨_, hti⟩ := R.touch_kind hi hei (x := x) (.inr (.inl ⟨r3, r4⟩))
      rcases R.pair q hi ho hoi he hei with p | ⟨_, p⟩
      · exact N.later hc hi p hli
      · rcases hti with ⟨t1, t2⟩ | ⟨_, _, t⟩ | t
        · rcases t2 with r | r <;> rcases hk with s | s <;> rw [r, s] at p <;> simp [Cls.pair] at p
        · rcases t with r | r | r | r <;> rcases hk with s | s <;> rw [r, s] at p <;> simp [Cls.pair] at p
        · rcases hk with s | s <;> rw [t, s] at p <;> simp [Cls.pair] at p

/-- Behind operation j a block that it touches stays as j left it, as far as the cut goes. -/
theorem Next.cut_behind {R : Reg P X C ops es st st'} {l : Array Bool} {j : Nat} (N : Next R l j) (hc : ClosedL ops l) (hsl : l.size = ops.size) {ρ : Ren}
    (hdom : ∀ x L, ρ x = some L → x < (R.T.H 0).length ∨ ∃ j, j < ops.size ∧ isL l j ∧ (R.T.H j).length ≤ x ∧ x < (R.T.H (j + 1)).length)
    (hwr : ∀ i x, i < ops.size → isL l i → x ∈ R.T.WR i → ∃ L, ρ x = some L)
    {x j0 : Nat} (hj0 : j0 ≤ ops.size) (hcut : R.cut (l.setIfInBounds j true) x j0) (ht : R.touch x j) (hx : x < (R.T.H (j + 1)).length) : (R.T.H j0).get x = (R.T.H (j + 1)).get x := by
  have hj := N.lt
  have hjl : j < l.size := by omega
  obtain ⟨o, e, ho, he, _, _⟩ := R.op hj
  obtain ⟨hwj, htj⟩ := R.touch_kind hj he ht
  have hlt : j < j0 := (hcut j hj ht).1 ((isL_set hjl).2 (.inr rfl))
  refine R.untouched_range j0 (by omega) hj0 hx fun k h1 h2 htk => ?_
  have hk : k < ops.size := by omega
  obtain ⟨ok, ek, hok, hek, _, _⟩ := R.op hk
  obtain ⟨hwk, htk'⟩ := R.touch_kind hk hek htk
  have hlk : isL l k := by
    rcases (isL_set hjl).1 ((hcut k hk htk).2 h2) with q | q
    · exact q
    · omega
  rcases R.pair (show j < k by omega) hk ho hok he hek with p | ⟨_, p⟩
  · exact N.later hc hk p hlk
  · -- the kinds
    rcases htk' with ⟨t1, t2⟩ | ⟨t1, t2, t3⟩ | t
    · rcases htj with ⟨s1, s2⟩ | ⟨s1, s2, s3⟩ | s
      · have hp : Cls.pair e.kind ek.kind = some true := by rcases s2 with r | r <;> rcases t2 with u | u <;> rw [r, u] <;> rfl
        rcases p with p | ⟨_, p1, p2⟩
        · rw [p] at hp; cases hp
        · exact ((R.apart (show j < k by omega) hk he hek p1 p2).1 x t1).2 s1
      · obtain ⟨L, hL⟩ := hwr k x hk hlk t1
        rcases hdom x L hL with r | ⟨m, r1, r2, r3, r4⟩
        · have := (R.base_le j (by omega)).2 0 (by omega); omega
        · have := R.born_once hj r1 s1 s2 r3 r4
          subst this; exact N.out r2
      · rcases t2 with r | r <;> rw [s, r] at p <;> simp [Cls.pair] at p
    · have := (R.base_le k (by omega)).2 (j + 1) (by omega); omega
    · rcases htj with ⟨s1, s2⟩ | ⟨s1, s2, s3⟩ | s
      · rcases s2 with r | r <;> rw [t, r] at p <;> simp [Cls.pair] at p
      · rcases s3 with r | r | r | r <;> rw [t, r] at p <;> simp [Cls.pair] at p
      · rw [t, s] at p; simp [Cls.pair] at p

/-- A cut of what has been executed with j, at a block that j does not touch, is one without j. -/
theorem Next.cut_same {R : Reg P X C ops es st st'} {l : Array Bool} {j : Nat} (N : Next R l j) (hsl : l.size = ops.size) {x j0 : Nat} (hcut : R.cut (l.setIfInBounds j true) x j0) (ht : ¬ R.touch x j) : R.cut l x j0 := by
  have hjl : j < l.size := by have := N.lt; omega
  intro i hi hti
  have h1 := hcut i hi hti
  rw [isL_set hjl] at h1
  have hne : i ≠ j := fun q => by subst q; exact ht hti
  simpa [hne] using h1

theorem Reg.step (R : Reg P X C ops es st st') {l : Array Bool} {a : Act} {w : World} (I : DInv R l a w) {j : Nat} (hready : j ∈ Region.ready .any ops l) {K : Act → World → Prop} {Q : Exit → Act → World → Prop}
    (hK : ∀ a' w', DInv R (l.setIfInBounds j true) a' w' → K a' w') : wpOp P ops Q j K a w := by
  obtain ⟨⟨ρ, g, hF, hs, hg, hdom, h0, hnew, hwr⟩, hcl, hsl, hframe, hdef, hsize⟩ := I
  have N := next_of_ready R hready hsl
  have hj := N.lt
  obtain ⟨o, e, ho, he, hok, _⟩ := R.op hj
  have hglob := R.A.globOk h0
  have hown : ∀ k, w.heap.size ≤ k → X.Own k := fun k hk => R.A.own k (by have := hframe.size; omega)
  have hev : ∀ x ∈ o.op.operands, ∀ v, C.eval (R.T.F j) x = some v → VRel ρ v (a.eval x) := by
    intro x hx v hv
    cases x with
    | tmp t =>
      obtain ⟨v', q1, q2⟩ := hF j t v (by omega) hv (N.cutT hcl ho (tmp_looks (ops := ops) hx))
      simp only [Act.eval]
      rw [Array.getD_eq_getD_getElem?, q1]; exact q2
    | const c => exact eval_rel (C := C) (f := []) (a := a) (fun t u q => by simp [AFrame.get] at q) hglob (hok.opd _ hx) hv
    | global c => exact eval_rel (C := C) (f := []) (a := a) (fun t u q => by simp [AFrame.get] at q) hglob (hok.opd _ hx) hv
    | func c => exact eval_rel (C := C) (f := []) (a := a) (fun t u q => by simp [AFrame.get] at q) hglob (hok.opd _ hx) hv
  have hbase := (R.base_le j (by omega)).1
  have hlim := R.A.lim
  unfold wpOp
  rw [ho]
  simp only
  rw [N.wanted hcl ho hF]
  cases hw : R.T.Wn j with
  | false =>
    rw [if_neg (by simp)]
    obtain ⟨k1, k2, k3, k4⟩ := R.T.skip j e he hw
    have hnt : ∀ x, ¬ R.touch x j := by
      intro x ht
      have := (R.touch_kind hj he ht).1
      rw [hw] at this; cases this
    refine hK _ _ (dinv_next N hcl hsl hframe hdef hsize ho hF hdom h0 hnew hwr (ρ' := ρ) (g' := g) (v' := undef) ρ.le_refl ?_ hs (.refl _ _) ?_ (fun x L q => .inl q) ?_)
    · rw [k1]; exact .tuple rfl (fun i x y hx => by simp at hx)
    · intro x j0 b L hj0 hcut hb hL
      exact hg x j0 b L hj0 (N.cut_same hsl hcut (hnt x)) hb hL
    · rw [k4]; intro x hx; simp at hx
  | true =>
    rw [if_pos rfl]
    left
    have F := R.facts hj he hw
    by_cases hkc : e.kind = .C ∨ e.kind = .F
    · -- a call
      have hcls := F.call hkc
      have hd : ∀ x L, ρ x = some L → x < (R.T.H j).length := fun x L q => N.dom_call hcl he hkc hdom q
      have hsH : Sim X.Own ρ (R.T.H j).get w := by
        have sub : ∀ x b L, (R.T.H j).get x = some b → ρ x = some L → g x = some b := fun x b L q1 q2 => hg x j b L (by omega) (N.cut_call hcl he hkc hdom (Heap.get_lt q1) q2) q1 q2
        exact ⟨fun i b L q1 q2 => hs.blk i b L (sub i b L q1 q2) q2, fun i b L q1 q2 q3 => hs.own i b L (sub i b L q1 q2) q2 q3,
          fun i k b c L M q q1 q2 q3 q4 q5 => hs.excl i k b c L M q (sub i b L q1 q4) q2 (sub k c M q3 q5) q4 q5⟩
      have hx := R.T.exec j e he hw
      have fin : ∀ (gf : FuncId) (vs args : List Value), C.callAt e.frz gf vs (R.T.H j) = some (R.T.V j, R.T.H (j + 1)) → R.T.WR j = [] → LRel (VRel ρ) vs args → (callable P gf = true → (execOp a.eval o).run P w = .ok (.enter gf args.toArray) w) → o.wp P a w K Q := by
        intro gf vs args hc hwr0 hr hrun
        obtain ⟨c1, c2, c3, c4⟩ := callAt_ok R.A.call (by omega) hc
        refine call_wp (hrun c1) ((c4 ρ w X.Own args hown hglob hsH hd hr).mono ?_) (R := fun v' w' => ∃ ρ', (∀ i, i < (R.T.H j).length → ρ' i = ρ i) ∧ VRel ρ' (R.T.V j) v' ∧ Sim X.Own ρ' (R.T.H (j + 1)).get w' ∧
          (∀ i L, ρ' i = some L → i < (R.T.H (j + 1)).length) ∧ (∀ i L, ρ' i = some L → (R.T.H j).length ≤ i → X.Own L.blk) ∧ Frame X.Own w w') ?_
        · rintro e w' ⟨v', ρ', rfl, q⟩; exact ⟨v', rfl, ρ', q⟩
        · rintro v' w' ⟨ρ', q1, q2, q3, q4, q5, q6⟩
          refine hK _ _ (dinv_next N hcl hsl hframe hdef hsize ho hF hdom h0 hnew hwr (ren_le hd q1) q2 q3 q6 ?_ ?_ ?_)
          · intro x j0 b L hj0 hcut hb hL
            have hxl := q4 x L hL
            by_cases ht : R.touch x j
            · rw [← N.cut_behind hcl hsl hdom hwr hj0 hcut ht hxl]; exact hb
            · have hxj : x < (R.T.H j).length := by
                rcases Nat.lt_or_ge x (R.T.H j).length with r | r
                · exact r
                · exact absurd (.inr (.inl ⟨r, hxl⟩)) ht
              rw [q1 x hxj] at hL
              have hc1 := N.cut_same hsl hcut ht
              have hc2 := N.cut_call hcl he hkc hdom hxj hL
              -- two cuts of one block
              have same : (R.T.H j0).get x = (R.T.H j).get x := by
                rcases Nat.le_total j0 j with r | r
                · have hx0 := Heap.get_lt hb
                  exact (R.untouched_range j r (by omega) hx0 fun k k1 k2 kt => by
                    have := (hc2 k (by omega) kt).2 k2
                    have := (hc1 k (by omega) kt).1 this
                    omega).symm
                · exact R.untouched_range j0 r hj0 hxj fun k k1 k2 kt => by
                    have := (hc1 k (by omega) kt).2 k2
                    have := (hc2 k (by omega) kt).1 this
                    omega
              rw [R.untouched hj hxj ht, ← same]; exact hb
          · intro x L hL
            rcases Nat.lt_or_ge x (R.T.H j).length with r | r
            · rw [q1 x r] at hL; exact .inl hL
            · exact .inr ⟨r, q4 x L hL, q5 x L hL r⟩
          · rw [hwr0]; intro x hx; simp at hx
      cases hop : e.op <;> rw [hop] at hcls hx <;> simp only [EOp.cls, reduceCtorEq] at hcls
      case call gf args =>
        simp only [EOp.exec] at hx
        obtain ⟨c, hoc, hcal, rfl, _⟩ := compile_call (by rw [hok.op, hop])
        split at hx
        · rename_i vs hvs
          simp only [Option.map_eq_some_iff] at hx
          obtain ⟨⟨u, k⟩, hc, hx⟩ := hx
          simp only [Prod.mk.injEq] at hx
          obtain ⟨rfl, rfl, _, hwr0⟩ := hx
          have hargs : LRel (VRel ρ) vs (c.args.toList.map a.eval) := mapM_rel hvs fun x hm => hev x (by rw [hoc]; simp [Op.operands, Call.operands]; exact .inr (by simpa using hm))
          exact fin gf vs _ hc hwr0.symm hargs fun hcl => run_call_func hoc hcal hcl
        · cases hx
      case callVal xo args =>
        simp only [EOp.exec] at hx
        obtain ⟨c, hoc, hcal, rfl⟩ := compile_callVal (by rw [hok.op, hop])
        split at hx
        · rename_i gf first captured vs hxv hvs
          simp only [Option.map_eq_some_iff] at hx
          obtain ⟨⟨u, k⟩, hc, hx⟩ := hx
          simp only [Prod.mk.injEq] at hx
          obtain ⟨rfl, rfl, _, hwr0⟩ := hx
          have hargs : LRel (VRel ρ) vs (c.args.toList.map a.eval) := mapM_rel hvs fun x hm => hev x (by rw [hoc]; simp [Op.operands, Call.operands]; exact .inr (by simpa using hm))
          have hxr := hev xo (by rw [hoc]; simp [Op.operands, Call.operands, hcal]) _ hxv
          obtain ⟨fi, ca, hxe, l1, l2⟩ := hxr.func_inv
          exact fin gf _ _ hc hwr0.symm ((l1.append hargs).append l2) fun hcl => run_call_val hoc hcal hxe hcl
        · cases hx
    · -- any other operation
      have hk1 : e.kind ≠ .C := fun q => hkc (.inl q)
      have hk2 : e.kind ≠ .F := fun q => hkc (.inr q)
      obtain ⟨out, hr, hv, hh, hrd, hwrj⟩ := F.plain hk1 hk2
      have hok0 := EOp.run_ok hr
      have hplen := Eff.pushes_one (R.T.H j) out.eff
      rw [← hh] at hplen
      have hid : out.eff.pushes = true → ρ (R.T.H j).length = none := by
        intro hp
        cases q : ρ (R.T.H j).length with
        | none => rfl
        | some L =>
          exfalso
          rw [hp, if_pos rfl] at hplen
          rcases hdom _ L q with r | ⟨k, r1, r2, r3, r4⟩
          · have := (R.base_le j (by omega)).2 0 (by omega); omega
          · have := R.born_once hj r1 (Nat.le_refl _) (by omega) r3 r4
            subst this; exact N.out r2
      refine step_plain hok hr hown hev hs hid ?_ ?_
      · intro x hx L hL
        rw [← hrd, ← hwrj] at hx
        obtain ⟨b, hb⟩ := F.live x hx
        rw [hb]
        exact hg x j b L (by omega) (N.cut_plain hcl he hw hk1 hk2 F hdom hx hL) hb hL
      · intro v' w' ρ' hle hvr hs2 hfr2 hdom2 hwr2
        rw [← hv] at hvr
        refine hK _ _ (dinv_next N hcl hsl hframe hdef hsize ho hF hdom h0 hnew hwr hle hvr hs2 hfr2 ?_ ?_ ?_)
        · intro x j0 b L hj0 hcut hb hL
          by_cases ht : R.touch x j
          · have htt : x ∈ out.eff.writes ∨ (out.eff.pushes = true ∧ x = (R.T.H j).length) := by
              rcases (R.touch_kind hj he ht).2 with ⟨q, _⟩ | ⟨q1, q2, _⟩ | q
              · left; rw [← hwrj]; exact q
              · right
                cases hp : out.eff.pushes with
                | true => rw [hp, if_pos rfl] at hplen; exact ⟨rfl, by omega⟩
                | false => rw [hp] at hplen; simp at hplen; omega
              · exact absurd q hk1
            have hxl : x < (R.T.H (j + 1)).length := by
              rcases htt with q | ⟨q1, q2⟩
              · obtain ⟨b', hb'⟩ := F.live x (by rw [hwrj]; simp [q])
                have := Heap.get_lt hb'; have := F.mono; omega
              · rw [q1, if_pos rfl] at hplen; omega
            rw [Eff.upd_touched htt (g2 := (R.T.H j).get), ← Eff.upd_apply _ _ hok0, ← hh, ← N.cut_behind hcl hsl hdom hwr hj0 hcut ht hxl]
            exact hb
          · have hnp : ¬ (out.eff.pushes = true ∧ x = (R.T.H j).length) := by
              rintro ⟨q1, q2⟩
              rw [q1, if_pos rfl] at hplen
              exact ht (.inr (.inl ⟨by omega, by omega⟩))
            rw [Eff.upd_other (fun q => ht (.inl (by rw [hwrj]; exact q))) hnp]
            rcases hdom2 x L hL with q | ⟨q1, _, q2⟩
            · exact hg x j0 b L hj0 (N.cut_same hsl hcut ht) hb q
            · exact absurd ⟨q2, q1⟩ hnp
        · intro x L hL
          rcases hdom2 x L hL with q | ⟨rfl, q1, q2⟩
          · exact .inl q
          · rw [q2, if_pos rfl] at hplen
            exact .inr ⟨Nat.le_refl _, by omega, q1⟩
        · intro x hx
          rw [hwrj] at hx
          obtain ⟨L, hL⟩ := hwr2 x hx
          exact ⟨L, hle x L hL⟩
end
end Go.Abs
