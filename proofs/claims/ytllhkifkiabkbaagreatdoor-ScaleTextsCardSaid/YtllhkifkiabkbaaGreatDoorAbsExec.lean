/- One operation of the abstract evaluator, calls too, in the order of the text. -/
import Derived.Test.YtllhkifkiabkbaaGreatDoorAbsOpAll
import Derived.RangeFuncRecord
import Derived.OrdersIn
import Derived.Lib.LaidTab
import Derived.Lib.ItoaNum
set_option linter.unusedSimpArgs false
set_option linter.unusedVariables false
namespace Go.Abs
variable {K : LoopKind}

def GlobOk (glob : List Nat) (ρ : Ren) : Prop := ∀ g i, globPos glob g = some i → ∃ L, ρ i = some L ∧ L.blk = g ∧ L.off = 0 ∧ L.map = false
/-- The library's table of the powers of 10, where it is among the package variables: whole, and nobody writes it. -/
def LaidOk (P : Program) (glob : List Nat) (Own : Nat → Prop) (w : World) : Prop :=
  ∀ g, P.globalNamed "internal/strconv.uint64pow10" = some g → (globPos glob g).isSome = true → ¬ Own g ∧ g < w.heap.size ∧ Lib.TabIs P w "internal/strconv.uint64pow10" .u64 Lib.pow10Tab
theorem LaidOk.frame {P : Program} {glob : List Nat} {Own : Nat → Prop} {w w' : World} (h : LaidOk P glob Own w) (f : Frame Own w w') : LaidOk P glob Own w' := by
  intro g h1 h2
  obtain ⟨a, b, c⟩ := h g h1 h2
  refine ⟨a, Nat.lt_of_lt_of_le b f.size, ?_⟩
  unfold Lib.TabIs World.var? at c ⊢
  rw [h1] at c ⊢
  simp only [Option.bind_some] at c ⊢
  rw [f.block g b a]; exact c
theorem LaidOk.own {P : Program} {glob : List Nat} {Own Own' : Nat → Prop} {w : World} (h : LaidOk P glob Own w) (k : ∀ i, i < w.heap.size → Own' i → Own i) : LaidOk P glob Own' w := by
  intro g h1 h2
  obtain ⟨a, b, c⟩ := h g h1 h2
  exact ⟨fun q => a (k g b q), b, c⟩
theorem LaidOk.none {P : Program} {glob : List Nat} {Own : Nat → Prop} {w : World} (h : (match P.globalNamed "internal/strconv.uint64pow10" with | some g => (globPos glob g).isNone | none => true) = true) : LaidOk P glob Own w := by
  intro g h1 h2
  rw [h1] at h
  simp only [Option.isNone_iff_eq_none] at h
  rw [h] at h2; cases h2

theorem constOk_rel {ρ : Ren} {v : Value} (h : constOk v = true) : VRel ρ v v := by
  unfold constOk at h
  split at h
  · rename_i cs
    refine .agg rfl fun i x y hx hy => ?_
    rw [hx] at hy; cases hy
    exact .plain (List.all_eq_true.1 h x (by simpa using Array.mem_of_getElem? hx))
  · rename_i cs
    have : cs.toList = [] := by simpa using h
    refine .tuple rfl fun i x y hx hy => ?_
    have h2 : cs.toList[i]? = some x := by simpa using hx
    rw [this] at h2; simp at h2
  · exact .plain h

theorem eval_rel {C : Ctx} {ρ : Ren} {f : AFrame} {a : Act} (hf : FRel ρ f a.tmps) (hg : GlobOk C.glob ρ) {x : Operand} (hx : opdOk C.glob x = true) {v : Value} (hv : C.eval f x = some v) : VRel ρ v (a.eval x) := by
  cases x with
  | tmp t =>
    obtain ⟨v', h1, h2⟩ := hf t v hv
    simp only [Act.eval]
    rw [Array.getD_eq_getD_getElem?, h1]; exact h2
  | const c =>
    simp only [Ctx.eval, Option.some.injEq] at hv; subst hv
    exact constOk_rel (by simpa [opdOk] using hx)
  | global g =>
    simp only [Ctx.eval, Option.map_eq_some_iff] at hv
    obtain ⟨i, hi, rfl⟩ := hv
    obtain ⟨L, hL, hb, ho, hk⟩ := hg g i hi
    have := VRel.ptr (o := 0) hL hk
    rw [hb, ho] at this
    exact this
  | func f =>
    simp only [Ctx.eval, Option.some.injEq] at hv; subst hv
    exact .func rfl rfl (fun i x y hx => by simp at hx) (fun i x y hx => by simp at hx)

/-- Below n no new address has been laid. -/
def Kept (n : Nat) (h h' : Heap) : Prop :=
  ∀ i, i < n → ∀ b', h'.get i = some b' → ∃ b, h.get i = some b ∧ ∀ v ∈ b'.cells, noAddr v = true ∨ v ∈ b.cells

theorem Kept.refl (n : Nat) (h : Heap) : Kept n h h := fun _ _ b' e => ⟨b', e, fun _ hv => .inr hv⟩
theorem Kept.trans {n : Nat} {a b c : Heap} (h : Kept n a b) (k : Kept n b c) : Kept n a c := by
  intro i hi b' e
  obtain ⟨b1, e1, h1⟩ := k i hi b' e
  obtain ⟨b2, e2, h2⟩ := h i hi b1 e1
  refine ⟨b2, e2, fun v hv => ?_⟩
  rcases h1 v hv with q | q
  · exact .inl q
  · exact h2 v q
theorem Kept.mono {n m : Nat} {a b : Heap} (h : Kept n a b) (hm : m ≤ n) : Kept m a b := fun i hi => h i (by omega)

theorem mem_splice : ∀ (vs cs : List Value) (o : Nat) (v : Value), v ∈ splice cs o vs → v ∈ cs ∨ v ∈ vs
  | [], _, _, _, h => .inl h
  | u :: r, cs, o, v, h => by
    simp only [splice] at h
    rcases mem_splice r _ _ v h with q | q
    · rcases List.mem_or_eq_of_mem_set q with p | p
      · exact .inl p
      · exact .inr (by simp [p])
    · exact .inr (by simp [q])

theorem Eff.length_le (h : Heap) (e : Eff) : h.length ≤ (e.apply h).length := by
  cases e <;> simp [Eff.apply]

theorem Eff.pushes_lt (h : Heap) (e : Eff) (hp : e.pushes = true) : h.length < (e.apply h).length := by
  cases e <;> simp [Eff.pushes] at hp <;> simp [Eff.apply]

theorem Eff.pushes_one (h : Heap) (e : Eff) : (e.apply h).length = if e.pushes then h.length + 1 else h.length := by
  cases e <;> simp [Eff.pushes, Eff.apply]

theorem Kept.of_same {n : Nat} {h h' : Heap} (hs : ∀ i, i < n → h'.get i = h.get i) : Kept n h h' :=
  fun i hi b' e => ⟨b', by rw [← hs i hi]; exact e, fun _ hv => .inr hv⟩

theorem Kept.push {n : Nat} {h : Heap} (b : Blk) (hn : n ≤ h.length) : Kept n h (h.push b) :=
  .of_same fun _ hi => Heap.get_push_lt b (by omega)

theorem Kept.move {n : Nat} {h : Heap} (i : Nat) (b : Blk) (hn : n ≤ h.length) : Kept n h ((h.put i none).push b) := by
  intro j hj b' e
  rw [Heap.get_push_lt b (by simp; omega)] at e
  by_cases hi : i = j
  · subst hi
    rw [Heap.get_put_eq _ (by omega)] at e; cases e
  · rw [Heap.get_put_ne _ hi] at e
    exact ⟨b', e, fun _ hv => .inr hv⟩

theorem EOp.run_kept {lim : Nat} {h : Heap} {ev : Operand → Option Value} {e : EOp} {out : Out} (hr : e.run lim h ev = some out) (hl : lim ≤ h.length) : Kept lim h (out.eff.apply h) := by
  have hok := EOp.run_ok hr
  cases e
  case store s x y =>
    simp only [EOp.run] at hr
    repeat' (first | split at hr | (cases hr; done))
    cases hr
    rename_i b off v _ _ _ k hk hc
    intro i hi b' e
    simp only [Eff.apply] at e
    by_cases hib : b = i
    · subst hib
      rw [Heap.get_put_eq _ (Heap.get_lt hk)] at e
      cases e
      refine ⟨k, hk, fun u hu => ?_⟩
      rcases mem_splice _ _ _ _ hu with q | q
      · exact .inr q
      · rcases hc.2.2.2.2 with p | p
        · omega
        · exact .inl (List.all_eq_true.1 p u q)
    · rw [Heap.get_put_ne _ hib] at e
      exact ⟨b', e, fun _ hv => .inr hv⟩
  case appendT es bytes s x =>
    cases he : out.eff with
    | none => exact .refl _ _
    | push b => exact .push b hl
    | move i b => exact .move i b hl
    | write i b =>
      simp only [EOp.run] at hr
      split at hr
      · unfold E.append at hr
        repeat' (first | split at hr | (cases hr; done))
        all_goals (cases hr; cases he)
      · cases hr
  case clear es z x =>
    simp only [EOp.run] at hr
    repeat' (first | split at hr | (cases hr; done))
    · cases hr; exact .refl _ _
    · cases hr; exact .refl _ _
    · cases hr
      rename_i b off n s _ _ _ k hk hc
      intro i hi b' e
      simp only [Eff.apply] at e
      by_cases hib : b = i
      · subst hib
        rw [Heap.get_put_eq _ (Heap.get_lt hk)] at e
        cases e
        refine ⟨k, hk, fun u hu => ?_⟩
        rcases mem_splice _ _ _ _ hu with q | q
        · exact .inr q
        · exact .inl (List.all_eq_true.1 (zeros_plain hc.2.2.2.2 _) u q)
      · rw [Heap.get_put_ne _ hib] at e
        exact ⟨b', e, fun _ hv => .inr hv⟩
  case mapSet ck m k x =>
    simp only [EOp.run] at hr
    repeat' (first | split at hr | (cases hr; done))
    rename_i r key xv _ _ _ b hb hc
    simp only [Option.map_eq_some_iff] at hr
    obtain ⟨cs, hcs, rfl⟩ := hr
    refine .of_same fun i hi => ?_
    simp only [Eff.apply]
    exact Heap.get_put_ne _ (by have := hc.2.2; omega)
  case append es bytes s x =>
    cases he : out.eff with
    | none => exact .refl _ _
    | push b => exact .push b hl
    | move i b => exact .move i b hl
    | write i b =>
      simp only [EOp.run] at hr
      split at hr
      · unfold E.append at hr
        repeat' (first | split at hr | (cases hr; done))
        all_goals (cases hr; cases he)
      · cases hr
  all_goals
    cases he : out.eff with
    | none => exact .refl _ _
    | push b => exact .push b hl
    | move i b => exact .move i b hl
    | write i b =>
      exfalso
      simp only [EOp.run, Option.map_eq_some_iff] at hr
      repeat' (first | split at hr | (cases hr; done))
      all_goals first
        | (cases hr; cases he; done)
        | (obtain ⟨_, _, rfl⟩ := hr; cases he; done)
        | (simp only [Option.map_eq_some_iff] at hr; obtain ⟨_, _, rfl⟩ := hr; cases he)

/-- What a call gives in the abstract, it gives. -/
def CallOk (P : Program) (K : LoopKind) (glob : List Nat) (f : FuncId) (lim : Nat) (vs : List Value) (h : Heap) (v : Value) (h' : Heap) : Prop :=
  callable P f = true ∧ h.length ≤ h'.length ∧ Kept lim h h' ∧
  ∀ (ρ : Ren) (w : World) (Own : Nat → Prop) (args : List Value), (∀ k, w.heap.size ≤ k → Own k) → (GlobOk glob ρ ∧ LaidOk P glob Own w) → Sim K Own ρ h.get w → (∀ i L, ρ i = some L → i < h.length) → LRel (VRel ρ) vs args →
    Calls P f args.toArray w fun e w' => ∃ v' ρ', e = .returned v' ∧ (∀ i, i < h.length → ρ' i = ρ i) ∧ VRel ρ' v v' ∧ Sim K Own ρ' h'.get w' ∧ (∀ i L, ρ' i = some L → i < h'.length) ∧
      (∀ i L, ρ' i = some L → h.length ≤ i → Own L.blk ∧ L.blk < w'.heap.size) ∧ Frame Own w w'

/-- The fence of the walk lets all in; ro: the frame is a round's. -/
def FW (ro : Option Nat) : Fence := { Fence.wide with round := ro }

/-- What a round gives in the abstract, it gives. -/
def RoundOk (P : Program) (K : LoopKind) (glob : List Nat) (lim b : Nat) (vs : List Value) (h : Heap) (v : Value) (h' : Heap) : Prop :=
  h.length ≤ h'.length ∧ Kept lim h h' ∧
  ∀ (ρ : Ren) (w : World) (Own : Nat → Prop) (args : List Value) (L : Loc), (∀ k, w.heap.size ≤ k → Own k) → (GlobOk glob ρ ∧ LaidOk P glob Own w) → Sim K Own ρ h.get w → (∀ i L, ρ i = some L → i < h.length) → LRel (VRel ρ) vs args →
    ρ b = some L → L.map = true → L.tot = 1 →
    ∃ fn tmps assign body, (Instr.yield L.blk args.toArray).run P w = .ok (.round L.blk fn tmps assign body) w ∧
      RoundIn (FW none) 0 P L.blk fn tmps assign body w fun e w' => ∃ v' ρ', e = .returned v' ∧ (∀ i, i < h.length → ρ' i = ρ i) ∧ VRel ρ' v v' ∧ Sim K Own ρ' h'.get w' ∧ (∀ i L, ρ' i = some L → i < h'.length) ∧
      (∀ i L, ρ' i = some L → h.length ≤ i → Own L.blk ∧ L.blk < w'.heap.size) ∧ Frame Own w w'

theorem callsIn_FW {n : Nat} {ro : Option Nat} {P : Program} {f : FuncId} {args : Array Value} {w : World} {R : Ending → World → Prop} (h : Calls P f args w R) : CallsIn (FW ro) n P f args w R :=
  (callsIn_wide (n := n)).2 h
theorem calls_FW {n : Nat} {ro : Option Nat} {P : Program} {f : FuncId} {args : Array Value} {w : World} {R : Ending → World → Prop} (h : CallsIn (FW ro) n P f args w R) : Calls P f args w R :=
  (callsIn_wide (n := n)).1 h
theorem roundIn_FW {n : Nat} {ro ro' : Option Nat} {P : Program} {l : Nat} {f : FuncId} {tmps : Array Value} {assign body : Code} {w : World} {R : Ending → World → Prop} (h : RoundIn (FW ro) n P l f tmps assign body w R) : RoundIn (FW ro') n P l f tmps assign body w R := h

theorem ren_le {ρ ρ' : Ren} {n : Nat} (hd : ∀ i L, ρ i = some L → i < n) (he : ∀ i, i < n → ρ' i = ρ i) : ρ.le ρ' := fun i L h => by rw [he i (hd i L h)]; exact h

@[simp] theorem Heap.length_freeze (h : Heap) : h.freeze.length = h.length := by simp [Heap.freeze]
theorem Heap.get_freeze (h : Heap) (i : Nat) : h.freeze.get i = (h.get i).map fun b => ⟨b.cells, false⟩ := by
  simp only [Heap.get, Heap.freeze, List.getElem?_map]
  cases h[i]? <;> simp

theorem Sim.freeze {Own Own' : Nat → Prop} {ρ : Ren} {h : Heap} {w : World} (hs : Sim K Own ρ h.get w) : Sim K Own' ρ h.freeze.get w := by
  refine ⟨fun i b L h1 h2 => ?_, fun i b L h1 h2 h3 => ?_, fun i j b c L M hij h1 h2 => ?_⟩
  · rw [Heap.get_freeze] at h1
    simp only [Option.map_eq_some_iff] at h1
    obtain ⟨b0, h0, rfl⟩ := h1
    refine ⟨fun hk => ?_, fun hk ht => ?_, fun hk ht => ?_⟩
    · obtain ⟨cur, e, fz, a1, a2, a3, a4, a5⟩ := (hs.blk i b0 L h0 h2).1 hk
      exact ⟨cur, e, fz, a1, a2, a3, (fun q => by cases q), a5⟩
    · exact (hs.blk i b0 L h0 h2).2.1 hk ht
    · exact (hs.blk i b0 L h0 h2).2.2 hk ht
  · rw [Heap.get_freeze] at h1
    simp only [Option.map_eq_some_iff] at h1
    obtain ⟨b0, h0, rfl⟩ := h1
    cases h3
  · rw [Heap.get_freeze] at h1
    simp only [Option.map_eq_some_iff] at h1
    obtain ⟨b0, h0, rfl⟩ := h1
    cases h2

theorem Heap.get_append_lt {h bs : Heap} {i : Nat} (k : i < h.length) : Heap.get (h ++ bs) i = h.get i := by
  simp [Heap.get, List.getElem?_append_left k]
theorem Heap.get_append_ge {h bs : Heap} {i : Nat} (k : h.length ≤ i) : Heap.get (h ++ bs) i = Heap.get bs (i - h.length) := by
  simp [Heap.get, List.getElem?_append_right k]
theorem Heap.get_drop (h : Heap) (n i : Nat) : Heap.get (h.drop n) i = h.get (n + i) := by simp [Heap.get]

/-- A call that finds nothing that it may write leaves all as it was. -/
theorem CallOk.frozen {P : Program} {glob : List Nat} {f : FuncId} {lim : Nat} {vs : List Value} {h h' : Heap} {v : Value} (hc : CallOk P K glob f lim vs h.freeze v h') (hl : lim ≤ h.length) :
    CallOk P K glob f lim vs h v (h ++ h'.drop h.length) := by
  obtain ⟨h1, h2, h3, h4⟩ := hc
  rw [Heap.length_freeze] at h2
  have hget : ∀ i, Heap.get (h ++ h'.drop h.length) i = if i < h.length then h.get i else h'.get i := by
    intro i
    split
    · rename_i k; exact Heap.get_append_lt k
    · rename_i k
      rw [Heap.get_append_ge (by omega), Heap.get_drop]; congr 1; omega
  have hlen : (h ++ h'.drop h.length).length = h'.length := by simp; omega
  refine ⟨h1, by simp, Kept.of_same fun i hi => by rw [hget, if_pos (by omega)], fun ρ w Own args hown hg hs hd hargs => ?_⟩
  refine (h4 ρ w (fun k => w.heap.size ≤ k) args (fun _ q => q) ⟨hg.1, hg.2.own fun i _ q => hown i q⟩ hs.freeze (by simpa using hd) hargs).mono ?_
  rintro e w' ⟨v', ρ', rfl, q1, q2, q3, q4, q5, q6⟩
  simp only [Heap.length_freeze] at q1 q5
  have hle := ren_le hd q1
  have hsame : ∀ i b L, h.get i = some b → ρ i = some L → w'.heap[L.blk]? = w.heap[L.blk]? := fun i b L e0 e => q6.block _ (hs.lt i b L e0 e) (fun k => by have := hs.lt i b L e0 e; omega)
  refine ⟨v', ρ', rfl, q1, q2, ⟨?_, ?_, ?_⟩, by rw [hlen]; exact q4, fun i L e k => ⟨hown _ (q5 i L e k).1, (q5 i L e k).2⟩, q6.weaken fun i hi ho => by omega⟩
  · intro i b L e1 e2
    rw [hget] at e1
    split at e1
    · rename_i hi
      rw [q1 i hi] at e2
      rw [hsame i b L e1 e2]
      exact (hs.blk i b L e1 e2).mono hle
    · exact q3.blk i b L e1 e2
  · intro i b L e1 e2 e3
    rw [hget] at e1
    split at e1
    · rename_i hi
      rw [q1 i hi] at e2
      exact hs.own i b L e1 e2 e3
    · rename_i hi; exact hown _ (q5 i L e2 (by omega)).1
  · intro i j b c L M hij e1 e2 e3 e4 e5
    rw [hget] at e1 e3
    split at e1
    · rename_i hi
      rw [q1 i hi] at e4
      split at e3
      · rename_i hj
        rw [q1 j hj] at e5
        exact hs.excl i j b c L M hij e1 e2 e3 e4 e5
      · rename_i hj
        have k1 := hs.lt i b L e1 e4
        have k2 : w.heap.size ≤ M.blk := (q5 j M e5 (by omega)).1
        omega
    · rename_i hi
      split at e3
      · rename_i hj
        rw [q1 j hj] at e5
        have k1 := hs.lt j c M e3 e5
        have k2 : w.heap.size ≤ L.blk := (q5 i L e4 (by omega)).1
        omega
      · exact q3.excl i j b c L M hij e1 e2 e3 e4 e5

theorem callAt_ok {P : Program} {C : Ctx} (hcall : ∀ lim f vs h v h', lim ≤ h.length → C.call lim f vs h = some (v, h') → CallOk P K C.glob f lim vs h v h') {frz : Bool} {f : FuncId} {vs : List Value} {h h' : Heap} {v : Value}
    (hl : C.lim ≤ h.length) (hc : C.callAt frz f vs h = some (v, h')) : CallOk P K C.glob f C.lim vs h v h' := by
  unfold Ctx.callAt at hc
  split at hc
  · simp only [Option.map_eq_some_iff] at hc
    obtain ⟨⟨u, k⟩, hk, e⟩ := hc
    cases e
    exact (hcall _ _ _ _ _ _ (by simpa using hl) hk).frozen hl
  · exact hcall _ _ _ _ _ _ hl hc

theorem roundAt_ok {P : Program} {C : Ctx} (hround : ∀ lim b vs h v h', lim ≤ h.length → C.round lim b vs h = some (v, h') → RoundOk P K C.glob lim b vs h v h') {frz : Bool} {b : Nat} {vs : List Value} {h h' : Heap} {v : Value}
    (hl : C.lim ≤ h.length) (hc : C.roundAt frz b vs h = some (v, h')) : frz = false ∧ RoundOk P K C.glob C.lim b vs h v h' := by
  unfold Ctx.roundAt at hc
  split at hc
  · cases hc
  · rename_i hf
    exact ⟨by simpa using hf, hround _ _ _ _ _ _ hl hc⟩

/-- What stays the same while a function runs. -/
structure Fix where
  K : LoopKind
  marks : List Nat
  Own : Nat → Prop
  ρ0 : Ren
  h0 : Heap
  w0 : World
  n : Nat

/-- The abstract state is the state. -/
structure CI (X : Fix) (C : Ctx) (st : St) (a : Act) (w : World) : Prop where
  ex : ∃ ρ, FRel ρ st.f a.tmps ∧ Sim X.K X.Own ρ st.h.get w ∧ (∀ i L, ρ i = some L → i < st.h.length) ∧ (∀ i, i < X.h0.length → ρ i = X.ρ0 i) ∧ (∀ i L, ρ i = some L → X.h0.length ≤ i → X.Own L.blk ∧ L.blk < w.heap.size)
  kept : Kept C.lim X.h0 st.h
  frame : Frame X.Own X.w0 w
  defers : a.defers = X.marks.map fun D => { target := .collected D, args := #[] }
  size : a.tmps.size = X.n
  len : X.h0.length ≤ st.h.length

/-- What is known of the surroundings. -/
structure Around (P : Program) (X : Fix) (C : Ctx) : Prop where
  own : ∀ k, X.w0.heap.size ≤ k → X.Own k
  glob : GlobOk C.glob X.ρ0
  laid : LaidOk P C.glob X.Own X.w0
  dom : ∀ i L, X.ρ0 i = some L → i < X.h0.length
  base : C.base = X.h0.length
  lim : C.lim ≤ X.h0.length
  call : ∀ lim f vs h v h', lim ≤ h.length → C.call lim f vs h = some (v, h') → CallOk P X.K C.glob f lim vs h v h'
  round : ∀ lim b vs h v h', lim ≤ h.length → C.round lim b vs h = some (v, h') → RoundOk P X.K C.glob lim b vs h v h'
  marks : ∀ D ∈ X.marks, D < X.w0.heap.size ∧ X.w0.heap[D]? = some (.deferred (some [])) ∧ ¬ X.Own D
  nodup : X.marks.Nodup

theorem Around.globOk {P : Program} {X : Fix} {C : Ctx} (A : Around P X C) {ρ : Ren} (h : ∀ i, i < X.h0.length → ρ i = X.ρ0 i) : GlobOk C.glob ρ := by
  intro g i hi
  obtain ⟨L, h1, h2, h3⟩ := A.glob g i hi
  exact ⟨L, by rw [h i (A.dom i L h1)]; exact h1, h2, h3⟩

/-- One operation's shape, as it is compiled. -/
structure OperOk (P : Program) (glob : List Nat) (n : Nat) (o : Oper) (e : EOper) : Prop where
  op : CompOp P o.op e.op
  opd : ∀ x ∈ o.op.operands, opdOk glob x = true
  dst : e.dst = o.dst
  fits : ∀ t, o.dst = some t → t < n

theorem callFunc_run {P : Program} {f : FuncId} (h : callable P f = true) (args : Array Value) (w : World) : (callFunc f args).run P w = .ok (.enter f args) w := by
  unfold callable at h
  split at h
  · rename_i fn hf
    simp only [Bool.and_eq_true, bne_iff_ne, ne_eq] at h
    have hb : fn.body.isNone = false := by
      cases hb : fn.body with
      | none => rw [hb] at h; simp at h
      | some c => rfl
    have hn : (fn.name == "runtime.NumGoroutine") = false := by simpa using h.2
    unfold callFunc
    simp only [Sem.run_bind, run_program, Result.andThen_ok, hf, hn, hb, Bool.false_eq_true, if_false, Sem.run_pure]
  · cases h

/-- A call, by what it gives in the abstract. -/
theorem call_wp {P : Program} {o : Oper} {a : Act} {w : World} {K : Act → World → Prop} {Q : Exit → Act → World → Prop} {g : FuncId} {args : List Value} {R : Value → World → Prop}
    (hrun : (execOp a.eval o).run P w = .ok (.enter g args.toArray) w) (hcalls : Calls P g args.toArray w fun e w' => ∃ v', e = .returned v' ∧ R v' w') (hK : ∀ v' w', R v' w' → K (a.put o.dst v') w') : o.wp P a w K Q := by
  unfold Oper.wp
  rw [hrun, Oper.upon_enter]
  refine hcalls.mono ?_
  rintro e w' ⟨v', rfl, hr⟩
  exact hK v' w' hr

theorem compile_nodefer {P : Program} {op : Op} {e : EOp} (h : CompOp P op e) : ∀ c, op ≠ .defer c := by
  rintro c rfl
  rcases h with h | ⟨_, _, _, _, h, _⟩ <;> simp [compileOp] at h

theorem FW_depth (ro : Option Nat) : ¬ ((FW ro).depth.isSome = true) := by simp [FW, Fence.wide]

/-- From the walk of all frames to that of a frame, a round's or not. -/
theorem wpIn_of_wp {P : Program} {o : Oper} {e : EOp} (hc : CompOp P o.op e) {ro : Option Nat} {a : Act} {w : World} {K : Act → World → Prop} {Q : Exit → Act → World → Prop} (h : o.wp P a w K Q) : o.wpIn (FW ro) 0 P a w K Q := by
  refine ⟨fun _ _ => trivial, ?_⟩
  rw [Oper.semAt_eq _ _ _ (compile_nodefer hc)]
  unfold Oper.wp at h
  generalize (execOp a.eval o).run P w = r at *
  cases r with
  | ok x w' =>
    cases x <;> simp only [Oper.upon] at h <;> simp only [Oper.uponIn] <;>
      first
        | exact h
        | exact ⟨fun q => absurd q (FW_depth ro), (callsIn_FW h).mono fun e w'' he => by cases e <;> exact he⟩
        | exact ⟨fun q => absurd q (FW_depth ro), fun c cs _ => by
            obtain ⟨v, w'', q, s⟩ := h c cs
            exact ⟨v, w'', q, (stepsIn_wide).2 s⟩⟩
  | halt x w' => cases x <;> simp only [Oper.upon] at h <;> simp only [Oper.uponIn] <;> exact h

/-- A round, by what it gives in the abstract. -/
theorem round_wpIn {P : Program} {o : Oper} {e : EOp} (hc : CompOp P o.op e) {ro : Option Nat} {a : Act} {w : World} {K : Act → World → Prop} {Q : Exit → Act → World → Prop} {l : Nat} {fn : FuncId} {tmps : Array Value} {assign body : Code} {R : Value → World → Prop}
    (hrun : (execOp a.eval o).run P w = .ok (.round l fn tmps assign body) w) (hr : RoundIn (FW none) 0 P l fn tmps assign body w fun e w' => ∃ v', e = .returned v' ∧ R v' w') (hK : ∀ v' w', R v' w' → K (a.put o.dst v') w') : o.wpIn (FW ro) 0 P a w K Q := by
  refine ⟨fun _ _ => trivial, ?_⟩
  rw [Oper.semAt_eq _ _ _ (compile_nodefer hc), hrun, Oper.uponIn_round]
  refine ⟨fun q => absurd q (FW_depth ro), (roundIn_FW hr).mono ?_⟩
  rintro e w' ⟨v', rfl, hr⟩
  exact hK v' w' hr

theorem run_yield_val {P : Program} {o : Oper} {a : Act} {w : World} {c : Call} {x : Operand} {l : Nat} {fn : FuncId} {tmps : Array Value} {assign body : Code} (ho : o.op = .call c) (hc : c.callee = .value x) (hx : a.eval x = .func (.yield l) #[] #[])
    (hy : (Instr.yield l (c.args.toList.map a.eval).toArray).run P w = .ok (.round l fn tmps assign body) w) : (execOp a.eval o).run P w = .ok (.round l fn tmps assign body) w := by
  have e : #[] ++ Array.map a.eval c.args = (c.args.toList.map a.eval).toArray := Array.ext' (by simp)
  simp only [execOp, ho, Sem.run_bind, resolve, hc, hx, Deferred.ofValue, invoke, Sem.run_pure, Result.andThen_ok]
  rw [e]
  exact hy

theorem mapM_eval {C : Ctx} {ρ : Ren} {f : AFrame} {a : Act} (hf : FRel ρ f a.tmps) (hg : GlobOk C.glob ρ) {xs : List Operand} (hx : ∀ x ∈ xs, opdOk C.glob x = true) {vs : List Value} (hv : xs.mapM (C.eval f) = some vs) : LRel (VRel ρ) vs (xs.map a.eval) :=
  mapM_rel hv fun x hm _ e => eval_rel hf hg (hx x hm) e

/-- The run of a call of a function that the text names. -/
theorem run_call_func {P : Program} {o : Oper} {a : Act} {w : World} {c : Call} {f : FuncId} (ho : o.op = .call c) (hc : c.callee = .value (.func f)) (hcl : callable P f = true) :
    (execOp a.eval o).run P w = .ok (.enter f (c.args.toList.map a.eval).toArray) w := by
  have hev : a.eval (.func f) = .func (.func f) #[] #[] := rfl
  have hargs : c.args.map a.eval = (c.args.toList.map a.eval).toArray := Array.ext' (by simp)
  simp only [execOp, ho, Sem.run_bind, resolve, hc, hev, Deferred.ofValue, invoke, Sem.run_pure, Result.andThen_ok]
  rw [show (#[] ++ Array.map a.eval c.args ++ #[] : Array Value) = (c.args.toList.map a.eval).toArray by rw [← hargs]; simp]
  exact callFunc_run hcl _ _

theorem run_call_val {P : Program} {o : Oper} {a : Act} {w : World} {c : Call} {x : Operand} {g : FuncId} {fi ca : Array Value} (ho : o.op = .call c) (hc : c.callee = .value x) (hx : a.eval x = .func (.func g) fi ca) (hcl : callable P g = true) :
    (execOp a.eval o).run P w = .ok (.enter g (fi.toList ++ c.args.toList.map a.eval ++ ca.toList).toArray) w := by
  have e : fi ++ Array.map a.eval c.args ++ ca = (fi.toList ++ c.args.toList.map a.eval ++ ca.toList).toArray := Array.ext' (by simp)
  simp only [execOp, ho, Sem.run_bind, resolve, hc, hx, Deferred.ofValue, invoke, Sem.run_pure, Result.andThen_ok]
  rw [e]
  exact callFunc_run hcl _ _

theorem CompOp.plain {P : Program} {op : Op} {e : EOp} (h : CompOp P op e) (hn : ∀ a b c d, e ≠ .appendT a b c d) : compileOp P op = some e := by
  rcases h with h | ⟨_, _, _, _, _, q⟩
  · exact h
  · exact absurd q (hn _ _ _ _)

theorem compile_call {P : Program} {op : Op} {f : FuncId} {args : List Operand} (h : CompOp P op (.call f args)) : ∃ c, op = .call c ∧ c.callee = .value (.func f) ∧ args = c.args.toList ∧ callable P f = true := by
  replace h := CompOp.plain h (by intros; simp)
  cases op <;> simp only [compileOp, Option.map_eq_some_iff, Option.some.injEq, reduceCtorEq, and_false, exists_false] at h
  case makeMap t r => cases r <;> simp at h
  case call c =>
    refine ⟨c, rfl, ?_⟩
    unfold compileCall at h
    split at h
    · rename_i g hg
      split at h
      · rename_i hcl; cases h; exact ⟨hg, rfl, hcl⟩
      · repeat' (first | split at h | (cases h; done))
    all_goals repeat' (first | split at h | (cases h; done))
  case binOp =>
    unfold compileBin at h
    repeat' (first | split at h | (cases h; done))
  case typeAssert =>
    unfold compileAssert at h
    repeat' (first | split at h | (cases h; done) | (simp at h; done))
  case slice =>
    unfold compileSlice at h
    repeat' (first | split at h | (cases h; done) | (simp at h; done))
  all_goals repeat' (first | split at h | (cases h; done) | (simp at h; done))

theorem compile_callVal {P : Program} {op : Op} {x : Operand} {args : List Operand} (h : CompOp P op (.callVal x args)) : ∃ c, op = .call c ∧ c.callee = .value x ∧ args = c.args.toList := by
  replace h := CompOp.plain h (by intros; simp)
  cases op <;> simp only [compileOp, Option.map_eq_some_iff, Option.some.injEq, reduceCtorEq, and_false, exists_false] at h
  case makeMap t r => cases r <;> simp at h
  case call c =>
    refine ⟨c, rfl, ?_⟩
    unfold compileCall at h
    split at h
    · repeat' (first | split at h | (cases h; done))
    · rename_i g _ hg; cases h; exact ⟨hg, rfl⟩
    all_goals repeat' (first | split at h | (cases h; done))
  case binOp =>
    unfold compileBin at h
    repeat' (first | split at h | (cases h; done))
  case typeAssert =>
    unfold compileAssert at h
    repeat' (first | split at h | (cases h; done) | (simp at h; done))
  case slice =>
    unfold compileSlice at h
    repeat' (first | split at h | (cases h; done) | (simp at h; done))
  all_goals repeat' (first | split at h | (cases h; done) | (simp at h; done))

/-- The general step of one operation: what is known is known of the heap h that the operation sees; the abstract heap as it stands may be another one (g), as long as they agree where the operation looks. -/
theorem step_plain {P : Program} {X : Fix} {C : Ctx} {o : Oper} {e : EOper} {f : AFrame} {h : Heap} {out : Out} {ρ : Ren} {g : Nat → Option Blk} {a : Act} {w : World} {K : Act → World → Prop} {Q : Exit → Act → World → Prop}
    (hok : OperOk P C.glob X.n o e) (hrun : e.op.run C.lim h (C.eval f) = some out) (hown : ∀ k, w.heap.size ≤ k → X.Own k)
    (hev : ∀ x ∈ o.op.operands, ∀ v, C.eval f x = some v → VRel ρ v (a.eval x)) (hs : Sim X.K X.Own ρ g w) (hid : out.eff.pushes = true → ρ h.length = none)
    (hag : ∀ i ∈ out.reads ++ out.eff.writes, ∀ L, ρ i = some L → g i = h.get i)
    (hK : ∀ v' w' ρ', ρ.le ρ' → VRel ρ' out.val v' → Sim X.K X.Own ρ' (out.eff.upd g h.length) w' → Frame X.Own w w' → (∀ j L, ρ' j = some L → ρ j = some L ∨ (j = h.length ∧ (X.Own L.blk ∧ L.blk < w'.heap.size) ∧ out.eff.pushes = true)) →
      (∀ i ∈ out.eff.writes, ∃ L, ρ i = some L) → K (a.put o.dst v') w') : o.wp P a w K Q := by
  obtain ⟨⟨nx, v', w', ρ', r1, r2, r3, r4, r5⟩⟩ := op_sound' (P := P) (a := a) (o := o) (w := w) (ρ := ρ) hok.op hrun hev
    (fun i hi b L e1 e2 => hs.blk i b L (by rw [hag i hi L e2]; exact e1) e2)
  have hok' : out.eff.okAt g := by
    have h0 := EOp.run_ok hrun
    cases he : out.eff with
    | none => trivial
    | push b => trivial
    | write i b =>
      rw [he] at h0 r5 hag
      obtain ⟨b0, q1, q2⟩ := h0
      obtain ⟨_, L, hL, _⟩ := r5
      exact ⟨b0, by rw [hag i (by simp [Eff.writes]) L hL]; exact q1, q2⟩
    | move i b =>
      rw [he] at h0 r5 hag
      obtain ⟨b0, q1, q2⟩ := h0
      obtain ⟨L, M, hL, _⟩ := r5
      exact ⟨b0, by rw [hag i (by simp [Eff.writes]) L hL]; exact q1, q2⟩
  obtain ⟨s1, s2, s3, s4⟩ := sim_step hs r5 r3 hid hown hok'
  have hwr' : ∀ i ∈ out.eff.writes, ∃ L, ρ i = some L := by
    intro i hi
    cases he : out.eff with
    | none => rw [he] at hi; simp [Eff.writes] at hi
    | push b => rw [he] at hi; simp [Eff.writes] at hi
    | write j b => rw [he] at hi r5; simp [Eff.writes] at hi; subst hi; obtain ⟨_, L, hL, _⟩ := r5; exact ⟨L, hL⟩
    | move j b => rw [he] at hi r5; simp [Eff.writes] at hi; subst hi; obtain ⟨L, M, hL, _⟩ := r5; exact ⟨L, hL⟩
  have hnew : ∀ j L, ρ' j = some L → ρ j = some L ∨ (j = h.length ∧ (X.Own L.blk ∧ L.blk < w'.heap.size) ∧ out.eff.pushes = true) := by
    intro j L hj
    rcases s4 j L hj with q | ⟨rfl, q⟩
    · exact .inl q
    · right
      cases he : out.eff with
      | none => rw [he] at q; cases q
      | write i b => rw [he] at q; cases q
      | push b =>
        rw [he] at r5; obtain ⟨L', rfl, hb, hsz, _⟩ := r5
        simp [upd] at hj; subst hj
        exact ⟨rfl, ⟨hown _ (by omega), by omega⟩, rfl⟩
      | move i b =>
        rw [he] at r5 hok'; obtain ⟨L0, M, hL0, rfl, hM, hMs, _⟩ := r5
        simp [upd] at hj; subst hj
        refine ⟨rfl, ⟨?_, hMs⟩, rfl⟩
        obtain ⟨b0, q1, q2⟩ := hok'
        rcases hM with q | q
        · rw [q]; exact hs.own i b0 L0 q1 hL0 q2
        · exact hown _ (by omega)
  have hgoal := hK v' w' ρ' s3 r4 s1 s2 hnew hwr'
  unfold Oper.wp
  rw [r1]
  cases nx <;> simp only [nextVal, reduceCtorEq, Option.some.injEq] at r2
  · subst r2; exact hgoal
  · subst r2; exact hgoal

/-- The same where the operands are known by a lesser relation. -/
theorem step_low {P : Program} {X : Fix} {C : Ctx} {o : Oper} {e : EOper} {f : AFrame} {h : Heap} {out : Out} {ρ ρb : Ren} {g : Nat → Option Blk} {a : Act} {w : World} {K : Act → World → Prop} {Q : Exit → Act → World → Prop}
    (hok : OperOk P C.glob X.n o e) (hrun : e.op.run C.lim h (C.eval f) = some out) (hown : ∀ k, w.heap.size ≤ k → X.Own k) (hlow : ρb.le ρ)
    (hev : ∀ x ∈ o.op.operands, ∀ v, C.eval f x = some v → VRel ρb v (a.eval x)) (hs : Sim X.K X.Own ρ g w) (hid : out.eff.pushes = true → ρ h.length = none)
    (hag : ∀ i ∈ out.reads ++ out.eff.writes, ∀ L, ρ i = some L → g i = h.get i)
    (hblk : ∀ i ∈ out.reads ++ out.eff.writes, ∀ b L, h.get i = some b → ρb i = some L → BlkOk X.K ρb L b w.heap[L.blk]?)
    (hK : ∀ v' w' ρ' ρb', ρ.le ρ' → ρb'.le ρ' → (∀ i L, ρb' i = some L → ρb i = some L ∨ (i = h.length ∧ out.eff.pushes = true)) → VRel ρb' out.val v' → Sim X.K X.Own ρ' (out.eff.upd g h.length) w' → Frame X.Own w w' → (∀ j L, ρ' j = some L → ρ j = some L ∨ (j = h.length ∧ (X.Own L.blk ∧ L.blk < w'.heap.size) ∧ out.eff.pushes = true)) →
      (∀ i ∈ out.eff.writes, ∃ L, ρ i = some L) → (∀ x b L, x ∉ out.eff.writes → g x = some b → ρ x = some L → w'.heap[L.blk]? = w.heap[L.blk]?) →
      (∀ x b L, (x ∈ out.eff.writes ∨ (out.eff.pushes = true ∧ x = h.length)) → out.eff.upd g h.length x = some b → ρ' x = some L → BlkOk X.K ρb L b w'.heap[L.blk]?) → K (a.put o.dst v') w') : o.wp P a w K Q := by
  obtain ⟨⟨nx, v', w', ρb', r1, r2, r3, r4, r5b⟩⟩ := op_sound' (P := P) (a := a) (o := o) (w := w) (ρ := ρb) hok.op hrun hev hblk
  obtain ⟨ρ', r5, l1, l2, l3⟩ := EffOk.lift r5b hlow hid
  have hok' : out.eff.okAt g := by
    have h0 := EOp.run_ok hrun
    cases he : out.eff with
    | none => trivial
    | push b => trivial
    | write i b =>
      rw [he] at h0 r5 hag
      obtain ⟨b0, q1, q2⟩ := h0
      obtain ⟨_, L, hL, _⟩ := r5
      exact ⟨b0, by rw [hag i (by simp [Eff.writes]) L hL]; exact q1, q2⟩
    | move i b =>
      rw [he] at h0 r5 hag
      obtain ⟨b0, q1, q2⟩ := h0
      obtain ⟨L, M, hL, _⟩ := r5
      exact ⟨b0, by rw [hag i (by simp [Eff.writes]) L hL]; exact q1, q2⟩
  obtain ⟨s1, s2, s3, s4⟩ := sim_step hs r5 r3 hid hown hok'
  have hwr' : ∀ i ∈ out.eff.writes, ∃ L, ρ i = some L := by
    intro i hi
    cases he : out.eff with
    | none => rw [he] at hi; simp [Eff.writes] at hi
    | push b => rw [he] at hi; simp [Eff.writes] at hi
    | write j b => rw [he] at hi r5; simp [Eff.writes] at hi; subst hi; obtain ⟨_, L, hL, _⟩ := r5; exact ⟨L, hL⟩
    | move j b => rw [he] at hi r5; simp [Eff.writes] at hi; subst hi; obtain ⟨L, M, hL, _⟩ := r5; exact ⟨L, hL⟩
  have hnew : ∀ j L, ρ' j = some L → ρ j = some L ∨ (j = h.length ∧ (X.Own L.blk ∧ L.blk < w'.heap.size) ∧ out.eff.pushes = true) := by
    intro j L hj
    rcases s4 j L hj with q | ⟨rfl, q⟩
    · exact .inl q
    · right
      cases he : out.eff with
      | none => rw [he] at q; cases q
      | write i b => rw [he] at q; cases q
      | push b =>
        rw [he] at r5; obtain ⟨L', rfl, hb, hsz, _⟩ := r5
        simp [upd] at hj; subst hj
        exact ⟨rfl, ⟨hown _ (by omega), by omega⟩, rfl⟩
      | move i b =>
        rw [he] at r5 hok'; obtain ⟨L0, M, hL0, rfl, hM, hMs, _⟩ := r5
        simp [upd] at hj; subst hj
        refine ⟨rfl, ⟨?_, hMs⟩, rfl⟩
        obtain ⟨b0, q1, q2⟩ := hok'
        rcases hM with q | q
        · rw [q]; exact hs.own i b0 L0 q1 hL0 q2
        · exact hown _ (by omega)
  have hgoal := hK v' w' ρ' ρb' s3 l2 l3 r4 s1 s2 hnew hwr' (fun x b L q1 q2 q3 => EffOk.other hs r5 hok' q1 q2 q3) (fun x b L q1 q2 q3 => EffOk.put (h := h) r5b l2 q1 q2 q3)
  unfold Oper.wp
  rw [r1]
  cases nx <;> simp only [nextVal, reduceCtorEq, Option.some.injEq] at r2
  · subst r2; exact hgoal
  · subst r2; exact hgoal

/-- One operation in the order of the text. -/
theorem exec_sound {P : Program} {X : Fix} {C : Ctx} (A : Around P X C) {o : Oper} {e : EOper} (hok : OperOk P C.glob X.n o e) {frz : Bool} {f : AFrame} {h h' : Heap} {v : Value} {rd wr : List Nat} {a : Act} {w : World} {K : Act → World → Prop} {Q : Exit → Act → World → Prop}
    (hx : e.op.exec C frz f h = some (v, h', rd, wr)) (hI : CI X C ⟨f, h⟩ a w) (hK : ∀ a' w', CI X C ⟨f.put e.dst v, h'⟩ a' w' → K a' w') {ro : Option Nat} : o.wpIn (FW ro) 0 P a w K Q := by
  obtain ⟨⟨ρ, hf, hs, hd, h0, hnew⟩, hkept, hframe, hdef, hsize, hlen⟩ := hI
  simp only at hf hs hd hkept hlen
  have hglob := A.globOk h0
  have hown : ∀ k, w.heap.size ≤ k → X.Own k := fun k hk => A.own k (by have := hframe.size; omega)
  have hev : ∀ x ∈ o.op.operands, ∀ v, C.eval f x = some v → VRel ρ v (a.eval x) := fun x hm v hv => eval_rel hf hglob (hok.opd x hm) hv
  have hlim := A.lim
  have fin : ∀ v' w' ρ' (h2 : Heap), ρ.le ρ' → VRel ρ' v v' → Sim X.K X.Own ρ' h2.get w' → Frame X.Own w w' → (∀ i L, ρ' i = some L → i < h2.length) → (∀ i, i < h.length → ρ' i = ρ i) → (∀ i L, ρ' i = some L → h.length ≤ i → X.Own L.blk ∧ L.blk < w'.heap.size) →
      Kept C.lim h h2 → h.length ≤ h2.length → CI X C ⟨f.put e.dst v, h2⟩ (a.put o.dst v') w' := by
    intro v' w' ρ' h2 hle hv hs2 hfr2 hd2 hsame hnew2 hk2 hl2
    refine ⟨⟨ρ', ?_, hs2, hd2, fun i hi => ?_, fun i L e1 e2 => ?_⟩, hkept.trans hk2, hframe.trans hfr2, by rw [put_defers']; exact hdef, by rw [put_size]; exact hsize, by simp only; omega⟩
    · rw [hok.dst]
      exact (hf.mono hle).put (fun t ht => by rw [hsize]; exact hok.fits t ht) hv
    · rw [hsame i (by omega)]; exact h0 i hi
    · rcases Nat.lt_or_ge i h.length with q | q
      · rw [hsame i q] at e1; exact ⟨(hnew i L e1 e2).1, Nat.lt_of_lt_of_le (hnew i L e1 e2).2 hfr2.size⟩
      · exact hnew2 i L e1 q
  have callcase : ∀ (gf : FuncId) (vs args : List Value), C.callAt frz gf vs h = some (v, h') → LRel (VRel ρ) vs args → (callable P gf = true → (execOp a.eval o).run P w = .ok (.enter gf args.toArray) w) → o.wpIn (FW ro) 0 P a w K Q := by
    intro gf vs args hc hr hrun
    obtain ⟨c1, c2, c3, c4⟩ := callAt_ok A.call (by omega) hc
    refine wpIn_of_wp hok.op <| call_wp (hrun c1) (c4 ρ w X.Own args hown ⟨hglob, A.laid.frame hframe⟩ hs hd hr |>.mono ?_) (R := fun v' w' => ∃ ρ', (∀ i, i < h.length → ρ' i = ρ i) ∧ VRel ρ' v v' ∧ Sim X.K X.Own ρ' h'.get w' ∧ (∀ i L, ρ' i = some L → i < h'.length) ∧ (∀ i L, ρ' i = some L → h.length ≤ i → X.Own L.blk ∧ L.blk < w'.heap.size) ∧ Frame X.Own w w') ?_
    · rintro e w' ⟨v', ρ', rfl, q⟩; exact ⟨v', rfl, ρ', q⟩
    · rintro v' w' ⟨ρ', q1, q2, q3, q4, q5, q6⟩
      exact hK _ _ (fin v' w' ρ' h' (ren_le hd q1) q2 q3 q6 q4 q1 q5 c3 c2)
  have plain : ∀ out, e.op.run C.lim h (C.eval f) = some out → out.val = v → out.eff.apply h = h' → o.wpIn (FW ro) 0 P a w K Q := by
    intro out hr hv hh
    subst hv hh
    have hid : ρ h.length = none := by
      cases q : ρ h.length with
      | none => rfl
      | some L => have := hd _ _ q; omega
    have hok0 := EOp.run_ok hr
    refine wpIn_of_wp hok.op <| step_plain hok hr hown hev hs (fun _ => hid) (fun _ _ _ _ => rfl) ?_
    intro v' w' ρ' hle hv hs2 hfr2 hdom _
    rw [← Eff.upd_apply h out.eff hok0] at hs2
    have hll := Eff.length_le h out.eff
    refine hK _ _ (fin v' w' ρ' _ hle hv hs2 hfr2 ?_ ?_ ?_ (EOp.run_kept hr (by omega)) hll)
    · intro i L q
      rcases hdom i L q with q | ⟨rfl, _, q⟩
      · have := hd i L q; omega
      · exact Eff.pushes_lt _ _ q
    · intro i hi
      cases q : ρ' i with
      | none =>
        cases q2 : ρ i with
        | none => rfl
        | some L => rw [hle i L q2] at q; cases q
      | some L =>
        rcases hdom i L q with p | ⟨rfl, _⟩
        · exact p.symm
        · omega
    · intro i L q hi
      rcases hdom i L q with p | ⟨_, p, _⟩
      · have := hd i L p; omega
      · exact p
  cases hop : e.op
  case call gf args =>
    rw [hop] at hx
    simp only [EOp.exec] at hx
    obtain ⟨c, ho, hcal, rfl, _⟩ := compile_call (by have := hok.op; rwa [hop] at this)
    split at hx
    · rename_i vs hvs
      simp only [Option.map_eq_some_iff] at hx
      obtain ⟨⟨u, k⟩, hc, hx⟩ := hx
      cases hx
      have hopd : ∀ x ∈ c.args.toList, opdOk C.glob x = true := fun x hm => hok.opd x (by rw [ho]; simp [Op.operands, Call.operands]; exact .inr (by simpa using hm))
      exact callcase gf vs _ hc (mapM_eval hf hglob hopd hvs) fun hcl => run_call_func ho hcal hcl
    · cases hx
  case callVal x args =>
    rw [hop] at hx
    simp only [EOp.exec] at hx
    obtain ⟨c, ho, hcal, rfl⟩ := compile_callVal (by have := hok.op; rwa [hop] at this)
    split at hx
    · rename_i gf first captured vs hxv hvs
      simp only [Option.map_eq_some_iff] at hx
      obtain ⟨⟨u, k⟩, hc, hx⟩ := hx
      cases hx
      have hopd : ∀ x ∈ c.args.toList, opdOk C.glob x = true := fun x hm => hok.opd x (by rw [ho]; simp [Op.operands, Call.operands]; exact .inr (by simpa using hm))
      have hxr := hev x (by rw [ho]; simp [Op.operands, Call.operands, hcal]) _ hxv
      obtain ⟨fi, ca, hxe, l1, l2⟩ := hxr.func_inv
      exact callcase gf _ _ hc ((l1.append (mapM_eval hf hglob hopd hvs)).append l2) fun hcl => run_call_val ho hcal hxe hcl
    · rename_i n first c0 vs hxv hvs
      have hopd : ∀ x ∈ c.args.toList, opdOk C.glob x = true := fun x hm => hok.opd x (by rw [ho]; simp [Op.operands, Call.operands]; exact .inr (by simpa using hm))
      have hxr := hev x (by rw [ho]; simp [Op.operands, Call.operands, hcal]) _ hxv
      obtain ⟨b, L, rfl, hL, hk, ht, hxe⟩ := hxr.yield_inv
      simp only [Option.map_eq_some_iff] at hx
      obtain ⟨⟨u, k⟩, hc, hx⟩ := hx
      cases hx
      obtain ⟨_, c2, c3, c4⟩ := roundAt_ok A.round (by omega) hc
      obtain ⟨fn, tmps, as, bd, hy, hrun⟩ := c4 ρ w X.Own _ L hown ⟨hglob, A.laid.frame hframe⟩ hs hd (mapM_eval hf hglob hopd hvs) hL hk ht
      refine round_wpIn hok.op (run_yield_val ho hcal hxe hy) (hrun.mono ?_) (R := fun v' w' => ∃ ρ', (∀ i, i < h.length → ρ' i = ρ i) ∧ VRel ρ' u v' ∧ Sim X.K X.Own ρ' k.get w' ∧ (∀ i L, ρ' i = some L → i < k.length) ∧ (∀ i L, ρ' i = some L → h.length ≤ i → X.Own L.blk ∧ L.blk < w'.heap.size) ∧ Frame X.Own w w') ?_
      · rintro e w' ⟨v', ρ', rfl, q⟩; exact ⟨v', rfl, ρ', q⟩
      · rintro v' w' ⟨ρ', q1, q2, q3, q4, q5, q6⟩
        exact hK _ _ (fin v' w' ρ' k (ren_le hd q1) q2 q3 q6 q4 q1 q5 c3 c2)
    · cases hx
  all_goals
    rw [hop] at hx
    simp only [EOp.exec, Option.map_eq_some_iff] at hx
    obtain ⟨out, hr, hx⟩ := hx
    cases hx
    exact plain out (by rw [hop]; exact hr) rfl rfl
end Go.Abs
