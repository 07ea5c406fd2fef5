/- Each operation of the abstract evaluator is what the program's operation does: numbers, strings, slices, calls of built-ins. -/
import Derived.Test.YtjalhpdmdiimoaaDoorAbsOps3
import Derived.Laws.AppendOwn
set_option linter.unusedSimpArgs false
set_option linter.unusedVariables false
namespace Go.Abs
section
variable {P : Program} {a : Act} {o : Oper} {w : World} {ρ : Ren} {h : Heap} {lim : Nat} {ev : Operand → Option Value} {out : Out}

theorem E.bin_run {op : BinOp} {t : TypeId} {x y : Operand} {u v r : Value} (hr : E.bin op u v = some r) (P : Program) (w : World) :
    (do eqGuard op t x y u v; binOp op t u v : Sem Value).run P w = .ok r w ∧ plainV u = true ∧ plainV v = true := by
  unfold E.bin at hr
  split at hr
  · rename_i k n k' m
    refine ⟨?_, rfl, rfl⟩
    rw [eqGuard_at_int]
    have e : binOp op t (.int k n) (.int k' m) = binOp op 0 (.int k n) (.int k' m) := by cases op <;> rfl
    simp only [Sem.run_bind, Sem.run_pure, Result.andThen_ok, e]
    exact semPure_some hr P w
  · rename_i s s'
    refine ⟨?_, rfl, rfl⟩
    rw [eqGuard_at_string]
    have e : binOp op t (.string s) (.string s') = binOp op 0 (.string s) (.string s') := by cases op <;> rfl
    simp only [Sem.run_bind, Sem.run_pure, Result.andThen_ok, e]
    exact semPure_some hr P w
  · cases hr

theorem semPure_rt {e : RuntimeError} {v : Value} (h : semPure (runtimePanic e) = some v) : False := by
  cases h

theorem E.bin_plain {op : BinOp} {p q r : Value} (hr : E.bin op p q = some r) : plainV r = true := by
  unfold E.bin at hr
  split at hr
  · rename_i k n k' m
    cases op <;> simp only [binOp, Op.shift, Op.intArith, Op.intDiv, Op.intBits, Op.intCmp, ne_eq, ite_not] at hr <;>
      (repeat' split at hr) <;> first | (exact (semPure_rt hr).elim) | (cases hr; rfl) | (cases hr)
  · rename_i s s'
    cases op <;> simp only [binOp, Op.stringOp] at hr <;> (repeat' split at hr) <;> first | (cases hr; rfl) | (cases hr)
  · cases hr

theorem sound_bin {op : BinOp} {t u : TypeId} {x y : Operand} (ho : o.op = .binOp op t x y u) (hrun : (EOp.bin op x y).run lim h ev = some out)
    (hx : ∀ v, ev x = some v → VRel ρ v (a.eval x)) (hy : ∀ v, ev y = some v → VRel ρ v (a.eval y)) : OpRes P a o w ρ h.length out := by
  simp only [EOp.run] at hrun
  split at hrun
  · rename_i p q hp hq
    simp only [Option.map_eq_some_iff] at hrun
    obtain ⟨v, hv, rfl⟩ := hrun
    obtain ⟨hr, h1, h2⟩ := E.bin_run (t := t) (x := x) (y := y) hv P w
    have e1 := (hx _ hp).plain_inv h1
    have e2 := (hy _ hq).plain_inv h2
    refine .pure (v' := v) ?_ (.plain (E.bin_plain hv)) rfl
    simp only [execOp, ho, e1, e2]
    simp only [Sem.run_bind] at hr ⊢
    rw [hr]; rfl
  · cases hrun

theorem sound_eqBool {op : BinOp} {neg : Bool} {t u : TypeId} {x y : Operand} (ho : o.op = .binOp op t x y u) (hop : op = if neg then .neq else .eql) (hu : P.underlying t = some .bool)
    (hrun : (EOp.eqBool neg x y).run lim h ev = some out) (hx : ∀ v, ev x = some v → VRel ρ v (a.eval x)) (hy : ∀ v, ev y = some v → VRel ρ v (a.eval y)) : OpRes P a o w ρ h.length out := by
  simp only [EOp.run] at hrun
  split at hrun
  · rename_i p q hp hq
    cases hrun
    have e1 := (hx _ hp).bool_inv
    have e2 := (hy _ hq).bool_inv
    have hb := run_equal_bool (P := P) (w := w) t p q hu
    refine .pure (v' := .bool (if neg then !(p == q) else p == q)) ?_ (.plain rfl) rfl
    subst hop
    cases neg <;> simp [execOp, ho, e1, e2, eqGuard_at_bool, binOp, hb]
  · cases hrun

theorem run_equal_nilnil {t : TypeId} {ms : Array (String × TypeId)} (hu : P.underlying t = some (.interface ms)) (d : Nat) : (Op.equalIn (d + 1) t .nilIface .nilIface).run P w = .ok true w := by
  simp only [Op.equalIn, Sem.run_bind, run_underlying hu, Result.andThen_ok, Sem.run_pure]
theorem run_equal_ifnil {t : TypeId} {ms : Array (String × TypeId)} (hu : P.underlying t = some (.interface ms)) (d : Nat) (ty : TypeId) (v : Value) : (Op.equalIn (d + 1) t (.iface ty v) .nilIface).run P w = .ok false w := by
  simp only [Op.equalIn, Sem.run_bind, run_underlying hu, Result.andThen_ok, Sem.run_pure]

theorem sound_eqNil {op : BinOp} {neg : Bool} {t u : TypeId} {x : Operand} {ms : Array (String × TypeId)} (ho : o.op = .binOp op t x (.const .nilIface) u) (hop : op = if neg then .neq else .eql)
    (hu : P.underlying t = some (.interface ms)) (hrun : (EOp.eqNil neg x).run lim h ev = some out) (hx : ∀ v, ev x = some v → VRel ρ v (a.eval x)) : OpRes P a o w ρ h.length out := by
  have ev0 : a.eval (.const .nilIface) = .nilIface := rfl
  simp only [EOp.run] at hrun
  split at hrun
  · rename_i hp
    cases hrun
    have e1 := (hx _ hp).plain_inv rfl
    refine .pure (v' := .bool (!neg)) ?_ (.plain rfl) rfl
    subst hop
    have he := run_equal_nilnil (P := P) (w := w) hu 9999
    cases neg
    · simp only [execOp, ho, e1, ev0, eqGuard_nil_constR, Sem.run_bind, Sem.run_pure, Result.andThen_ok, Bool.false_eq_true, if_false, binOp, Op.equal, Op.maxDepth, he]; rfl
    · simp only [execOp, ho, e1, ev0, eqGuard_nil_constR, Sem.run_bind, Sem.run_pure, Result.andThen_ok, if_true, binOp, Op.equal, Op.maxDepth, he]
  · rename_i ty v hp
    cases hrun
    obtain ⟨u', e1, _⟩ := (hx _ hp).iface_inv
    refine .pure (v' := .bool neg) ?_ (.plain rfl) rfl
    subst hop
    have he := run_equal_ifnil (P := P) (w := w) hu 9999 ty u'
    cases neg
    · simp only [execOp, ho, e1, ev0, eqGuard_at_iface, Sem.run_bind, Sem.run_pure, Result.andThen_ok, Bool.false_eq_true, if_false, binOp, Op.equal, Op.maxDepth, he]
    · simp only [execOp, ho, e1, ev0, eqGuard_at_iface, Sem.run_bind, Sem.run_pure, Result.andThen_ok, if_true, binOp, Op.equal, Op.maxDepth, he]; rfl
  · cases hrun

theorem LRel.eqCells : ∀ (ks : List CK) {xs ys xs' ys' : List Value} {r : Bool}, E.eqCells ks xs ys = some r → LRel (VRel ρ) xs xs' → LRel (VRel ρ) ys ys' → E.eqCells ks xs' ys' = some r := by
  intro ks
  induction ks with
  | nil =>
    intro xs ys xs' ys' r hr h1 h2
    have hl := eqCells_len _ _ _ hr
    have e1 := h1.len; have e2 := h2.len
    simp only [List.length_nil] at hl
    rw [List.length_eq_zero_iff] at hl
    obtain ⟨rfl, hl2⟩ := hl
    rw [List.length_eq_zero_iff] at hl2
    subst hl2
    rw [List.eq_nil_of_length_eq_zero e1.symm, List.eq_nil_of_length_eq_zero e2.symm]; exact hr
  | cons k ks ih =>
    intro xs ys xs' ys' r hr h1 h2
    have hl := eqCells_len _ _ _ hr
    match xs, ys, xs', ys', hl, h1, h2 with
    | x :: xs, y :: ys, x' :: xs', y' :: ys', _, h1, h2 =>
      unfold E.eqCells at hr
      split at hr <;> rename_i e0 <;> first | (cases e0; done) | skip
      · rename_i e1 e2; cases e0; cases e1; cases e2
        obtain rfl := h1.1.int_inv
        obtain rfl := h2.1.int_inv
        split at hr
        · rename_i hk
          simp only [Option.map_eq_some_iff] at hr
          obtain ⟨r0, h0, rfl⟩ := hr
          simp [E.eqCells, hk, ih h0 h1.2 h2.2]
        · cases hr
      · rename_i e1 e2; cases e0; cases e1; cases e2
        obtain rfl := h1.1.bool_inv
        obtain rfl := h2.1.bool_inv
        simp only [Option.map_eq_some_iff] at hr
        obtain ⟨r0, h0, rfl⟩ := hr
        simp [E.eqCells, ih h0 h1.2 h2.2]
      · rename_i e1 e2; cases e0; cases e1; cases e2
        obtain rfl := h1.1.string_inv
        obtain rfl := h2.1.string_inv
        simp only [Option.map_eq_some_iff] at hr
        obtain ⟨r0, h0, rfl⟩ := hr
        simp [E.eqCells, ih h0 h1.2 h2.2]
      · cases hr

theorem sound_eqAgg {op : BinOp} {neg : Bool} {t u : TypeId} {x y : Operand} {ks : List CK} (ho : o.op = .binOp op t x y u) (hop : op = if neg then .neq else .eql) (hg : isAggT P t = some true)
    (hf : flatT P 20 t = some ks) (hm : P.eqGuardType P.depth t = false)
    (hrun : (EOp.eqAgg neg ks x y).run lim h ev = some out) (hx : ∀ v, ev x = some v → VRel ρ v (a.eval x)) (hy : ∀ v, ev y = some v → VRel ρ v (a.eval y)) : OpRes P a o w ρ h.length out := by
  simp only [EOp.run] at hrun
  split at hrun
  · rename_i xs ys hp hq
    simp only [Option.map_eq_some_iff] at hrun
    obtain ⟨r, hr, rfl⟩ := hrun
    obtain ⟨xs', e1, l1⟩ := (hx _ hp).agg_inv
    obtain ⟨ys', e2, l2⟩ := (hy _ hq).agg_inv
    have he := run_equalIn_flat P w 20 t 10000 ks _ _ r hf (by omega) (LRel.eqCells ks hr l1 l2)
    simp only [pv, hg, if_true, Array.toArray_toList] at he
    refine .pure (v' := .bool (if neg then !r else r)) ?_ (.plain rfl) rfl
    subst hop
    cases neg
    · simp only [execOp, ho, e1, e2, Sem.run_bind, Bool.false_eq_true, if_false, run_eqGuard_agg w _ _ _ _ _ _ hm, Result.andThen_ok, run_eql_struct, he, Sem.run_pure]
    · simp only [execOp, ho, e1, e2, Sem.run_bind, if_true, run_eqGuard_agg w _ _ _ _ _ _ hm, Result.andThen_ok, run_neq_struct, he, Sem.run_pure]
  · cases hrun

theorem E.un_run {op : UnOp} {u r : Value} (hr : E.un op u = some r) (P : Program) (w : World) : (Op.unary op u).run P w = .ok r w ∧ plainV u = true ∧ plainV r = true := by
  unfold E.un at hr
  split at hr
  · refine ⟨semPure_some hr P w, rfl, ?_⟩
    cases op <;> simp only [Op.unary, Op.intArith, Op.intBits] at hr <;> first | (cases hr; rfl) | (cases hr)
  · refine ⟨semPure_some hr P w, rfl, ?_⟩
    cases op <;> simp only [Op.unary] at hr <;> first | (cases hr; rfl) | (cases hr)
  · cases hr

theorem sound_un {op : UnOp} {t : TypeId} {x : Operand} (ho : o.op = .unOp op t x) (hrun : (EOp.un op x).run lim h ev = some out)
    (hx : ∀ v, ev x = some v → VRel ρ v (a.eval x)) : OpRes P a o w ρ h.length out := by
  simp only [EOp.run] at hrun
  split at hrun
  · rename_i p hp
    simp only [Option.map_eq_some_iff] at hrun
    obtain ⟨v, hv, rfl⟩ := hrun
    obtain ⟨hr, h1, h2⟩ := E.un_run hv P w
    have e1 := (hx _ hp).plain_inv h1
    exact .pure (v' := v) (by simp [execOp, ho, e1, hr]) (.plain h2) rfl
  · cases hrun

theorem sound_conv {s d : TypeId} {k : IntKind} {x : Operand} {ds : TypeDesc} (ho : o.op = .convert s d x) (hs : P.underlying s = some ds) (hd : P.underlying d = some (.int k)) (hrun : (EOp.conv k x).run lim h ev = some out)
    (hx : ∀ v, ev x = some v → VRel ρ v (a.eval x)) : OpRes P a o w ρ h.length out := by
  simp only [EOp.run] at hrun
  split at hrun
  · rename_i k' n hp
    cases hrun
    have e1 := (hx _ hp).int_inv
    exact .pure (v' := .int k (k.wrap n)) (by simp [execOp, ho, e1, convert, run_underlying hs, run_underlying hd, Conv.intToInt]) (.plain rfl) rfl
  · cases hrun

theorem sound_extract {x : Operand} {i : Nat} (ho : o.op = .extract x i) (hrun : (EOp.extract x i).run lim h ev = some out)
    (hx : ∀ v, ev x = some v → VRel ρ v (a.eval x)) : OpRes P a o w ρ h.length out := by
  simp only [EOp.run] at hrun
  split at hrun
  · rename_i vs hp
    simp only [Option.map_eq_some_iff] at hrun
    obtain ⟨v, hv, rfl⟩ := hrun
    obtain ⟨vs', e1, l1⟩ := (hx _ hp).tuple_inv
    obtain ⟨v', hv', r⟩ := l1.get (i := i) (x := v) (by simpa using hv)
    have hv2 : vs'[i]? = some v' := by simpa using hv'
    exact .pure (v' := v') (by simp [execOp, ho, e1, Instr.extract, hv2]) r rfl
  · cases hrun

theorem sound_makeFunc {fn : Fn} {first captured : Array Operand} (ho : o.op = .makeFunc fn first captured) (hf : first = #[]) (hrun : (EOp.makeFunc fn captured.toList).run lim h ev = some out)
    (hx : ∀ x ∈ captured.toList, ∀ v, ev x = some v → VRel ρ v (a.eval x)) : OpRes P a o w ρ h.length out := by
  simp only [EOp.run, Option.map_eq_some_iff] at hrun
  obtain ⟨cs, hcs, rfl⟩ := hrun
  have key : ∀ (xs : List Operand) (cs : List Value), xs.mapM ev = some cs → (∀ x ∈ xs, ∀ v, ev x = some v → VRel ρ v (a.eval x)) → LRel (VRel ρ) cs (xs.map a.eval) := by
    intro xs
    induction xs with
    | nil => intro cs h1 _; simp at h1; subst h1; trivial
    | cons x xs ih =>
      intro cs h1 h2
      rw [List.mapM_cons] at h1
      simp only [bind, Option.bind_eq_some_iff, pure, Option.some.injEq] at h1
      obtain ⟨v, hv, r, hr, rfl⟩ := h1
      exact ⟨h2 x (by simp) v hv, ih r hr fun y hy => h2 y (by simp [hy])⟩
  have l := key _ _ hcs hx
  subst hf
  refine .pure (v' := .func fn #[] (captured.map a.eval)) (by simp [execOp, ho, Instr.makeFunc]) ?_ rfl
  refine .func rfl ?_ (fun i x y hx => by simp at hx) ?_
  · have := l.len; simp at this; simpa using this
  · intro i x y hx hy
    obtain ⟨z, hz, r⟩ := l.get (i := i) (x := x) (by simpa using hx)
    rw [Array.getElem?_map] at hy
    simp only [List.getElem?_map, Array.getElem?_toList] at hz
    rw [hz] at hy; cases hy; exact r

theorem mapM_rel {xs : List Operand} {cs : List Value} (h1 : xs.mapM ev = some cs) (h2 : ∀ x ∈ xs, ∀ v, ev x = some v → VRel ρ v (a.eval x)) : LRel (VRel ρ) cs (xs.map a.eval) := by
  induction xs generalizing cs with
  | nil => simp at h1; subst h1; trivial
  | cons x xs ih =>
    rw [List.mapM_cons] at h1
    simp only [bind, Option.bind_eq_some_iff, pure, Option.some.injEq] at h1
    obtain ⟨v, hv, r, hr, rfl⟩ := h1
    exact ⟨h2 x (by simp) v hv, ih hr fun y hy => h2 y (by simp [hy])⟩

theorem sound_makeIface {t : TypeId} {x : Operand} {d : TypeDesc} (ho : o.op = .makeInterface t x) (hd : P.underlying t = some d) (hni : ∀ ms, d ≠ .interface ms) (hrun : (EOp.makeIface t x).run lim h ev = some out)
    (hx : ∀ v, ev x = some v → VRel ρ v (a.eval x)) : OpRes P a o w ρ h.length out := by
  simp only [EOp.run, Option.map_eq_some_iff] at hrun
  obtain ⟨v, hv, rfl⟩ := hrun
  refine .pure (v' := .iface t (a.eval x)) ?_ (.iface (hx v hv)) rfl
  cases d <;> first | (exact absurd rfl (hni _)) | simp [execOp, ho, Instr.makeInterface, run_underlying hd]

theorem E.minmax_run {f : Int → Int → Int} {g : Value → Value → Sem Value} (hg : ∀ (k k' : IntKind) (x y : Int), g (.int k x) (.int k' y) = pure (.int k (f x y))) (P : Program) (w : World) :
    ∀ (l : List Value) (k : IntKind) (n : Int) (r : Value), E.minmax f k n l = some r → (l.foldlM g (.int k n)).run P w = .ok r w ∧ plainV r = true ∧ l.all plainV = true
  | [], k, n, r, h => by simp [E.minmax] at h; subst h; simp [List.foldlM]; rfl
  | .int k' m :: l, k, n, r, h => by
    simp only [E.minmax] at h
    obtain ⟨h1, h2, h3⟩ := E.minmax_run hg P w l k _ r h
    refine ⟨?_, h2, by simp [h3, plainV]⟩
    simp only [List.foldlM_cons, hg, pure_bind]
    exact h1
  | .bool _ :: _, _, _, _, h => by cases h
  | .float .. :: _, _, _, _, h => by cases h
  | .complex .. :: _, _, _, _, h => by cases h
  | .string _ :: _, _, _, _, h => by cases h
  | .pointer _ :: _, _, _, _, h => by cases h
  | .slice .. :: _, _, _, _, h => by cases h
  | .map _ :: _, _, _, _, h => by cases h
  | .chan _ :: _, _, _, _, h => by cases h
  | .func .. :: _, _, _, _, h => by cases h
  | .nilFunc :: _, _, _, _, h => by cases h
  | .iface .. :: _, _, _, _, h => by cases h
  | .nilIface :: _, _, _, _, h => by cases h
  | .agg _ :: _, _, _, _, h => by cases h
  | .tuple _ :: _, _, _, _, h => by cases h

theorem LRel.plain_eq : ∀ {xs ys : List Value}, LRel (VRel ρ) xs ys → xs.all plainV = true → ys = xs
  | [], [], _, _ => rfl
  | x :: xs, y :: ys, h, hp => by
    simp only [List.all_cons, Bool.and_eq_true] at hp
    rw [h.1.plain_inv hp.1, LRel.plain_eq h.2 hp.2]
  | [], _ :: _, h, _ => h.elim
  | _ :: _, [], h, _ => h.elim

theorem sound_min {c : Call} (ho : o.op = .call c) (hc : c.callee = .builtin .min) (hrun : (EOp.min c.args.toList).run lim h ev = some out)
    (hx : ∀ x ∈ c.args.toList, ∀ v, ev x = some v → VRel ρ v (a.eval x)) : OpRes P a o w ρ h.length out := by
  simp only [EOp.run] at hrun
  split at hrun
  · rename_i k n r hm
    simp only [Option.map_eq_some_iff] at hrun
    obtain ⟨v, hv, rfl⟩ := hrun
    have l := mapM_rel hm hx
    obtain ⟨h1, h2, h3⟩ := E.minmax_run (g := Builtin.min2) (fun _ _ _ _ => rfl) P w r k n v hv
    have e := l.plain_eq (by simp only [List.all_cons, h3, plainV, Bool.and_self])
    refine .pure (v' := v) ?_ (.plain h2) rfl
    simp [execOp, ho, resolve, hc, invoke, builtin, Builtin.min_, e, h1]
  · cases hrun

theorem sound_max {c : Call} (ho : o.op = .call c) (hc : c.callee = .builtin .max) (hrun : (EOp.max c.args.toList).run lim h ev = some out)
    (hx : ∀ x ∈ c.args.toList, ∀ v, ev x = some v → VRel ρ v (a.eval x)) : OpRes P a o w ρ h.length out := by
  simp only [EOp.run] at hrun
  split at hrun
  · rename_i k n r hm
    simp only [Option.map_eq_some_iff] at hrun
    obtain ⟨v, hv, rfl⟩ := hrun
    have l := mapM_rel hm hx
    obtain ⟨h1, h2, h3⟩ := E.minmax_run (g := Builtin.max2) (fun _ _ _ _ => rfl) P w r k n v hv
    have e := l.plain_eq (by simp only [List.all_cons, h3, plainV, Bool.and_self])
    refine .pure (v' := v) ?_ (.plain h2) rfl
    simp [execOp, ho, resolve, hc, invoke, builtin, Builtin.max_, e, h1]
  · cases hrun

theorem sound_lenStr {c : Call} {x : Operand} {t : TypeId} (ho : o.op = .call c) (hc : c.callee = .builtin .len) (ha : c.args = #[x]) (ht : c.argTypes[0]? = some t) (hu : P.underlying t = some .string)
    (hrun : (EOp.len true x).run lim h ev = some out) (hx : ∀ v, ev x = some v → VRel ρ v (a.eval x)) : OpRes P a o w ρ h.length out := by
  simp only [EOp.run] at hrun
  split at hrun
  · rename_i s hb hp
    cases hrun
    have e1 := (hx _ hp).string_inv
    refine .pure (v' := .int .i64 s.size) ?_ (.plain rfl) rfl
    simp [execOp, ho, resolve, hc, ha, invoke, builtin, Builtin.len_, ht, e1, run_underlying hu, goInt]
  · rename_i hb _; cases hb
  · rename_i hb _; cases hb
  · cases hrun

theorem sound_lenSlice {c : Call} {x : Operand} {t e : TypeId} (ho : o.op = .call c) (hc : c.callee = .builtin .len) (ha : c.args = #[x]) (ht : c.argTypes[0]? = some t) (hu : P.underlying t = some (.slice e))
    (hrun : (EOp.len false x).run lim h ev = some out) (hx : ∀ v, ev x = some v → VRel ρ v (a.eval x)) : OpRes P a o w ρ h.length out := by
  simp only [EOp.run] at hrun
  split at hrun
  · rename_i hb _; cases hb
  · rename_i hb hp
    cases hrun
    have e1 := (hx _ hp).plain_inv rfl
    refine .pure (v' := .int .i64 0) ?_ (.plain rfl) rfl
    simp [execOp, ho, resolve, hc, ha, invoke, builtin, Builtin.len_, ht, e1, run_underlying hu, goInt]
  · rename_i b off n s hb hp
    cases hrun
    obtain ⟨L, ad, cap, _, e1, _⟩ := (hx _ hp).slice_inv
    refine .pure (v' := .int .i64 n) ?_ (.plain rfl) rfl
    simp [execOp, ho, resolve, hc, ha, invoke, builtin, Builtin.len_, ht, e1, run_underlying hu, goInt]
  · cases hrun
end
end Go.Abs
