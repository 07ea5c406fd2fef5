/- A region whose operations may come in more than one order. -/
import Derived.Test.YtllhkifkiabkbaaGreatDoorAbsCollect
set_option linter.unusedSimpArgs false
set_option linter.unusedVariables false
/- A region whose operations may come in more than one order. -/
namespace Go.Abs

def EOper.kind (e : EOper) : Cls := if e.op.cls = .C ∧ e.frz = true then .F else e.op.cls

/-- A pair of operations, the first one ahead in the text: ordered, or apart and of kinds that may change places. -/
def pairOk (ops : Array Oper) (es : List EOper) (b : Array Nat) (i j : Nat) : Bool :=
  (b.getD j 0).testBit i || (match ops[i]?, ops[j]?, es[i]?, es[j]? with
    | some oi, some oj, some ei, some ej => Oper.apart ops oi oj && (match Cls.pair ei.kind ej.kind with
      | some false => true
      | some true => ei.log && ej.conf.contains i
      | none => false)
    | _, _, _, _ => false)

def edgesOk (ops : Array Oper) : Bool :=
  (List.range ops.size).all fun j => match ops[j]? with
    | some o => o.after.toList.all fun e => !Region.binds .any e || decide (e.on < j)
    | none => false

def drawOk (ops : Array Oper) (es : List EOper) : Bool :=
  let b := Region.before ops
  edgesOk ops && (List.range ops.size).all fun j => (List.range j).all fun i => pairOk ops es b i j

/-- The notes of an operation: with which earlier ones its blocks are compared, whether its own are noted, whether it may write. -/
def decorate (ops : Array Oper) (es : List EOper) : List EOper :=
  let b := Region.before ops
  let n := es.length
  let un (i j : Nat) : Bool := !((b.getD j 0).testBit i)
  let frz := es.zipIdx.map fun (e, j) => { e with frz := decide (e.op.cls = Cls.C) && ((List.range n).any fun i => i != j && (if i < j then un i j else un j i) && (match es[i]? with | some x => decide (x.op.cls ≠ Cls.P) | none => false)) }
  let confs := frz.zipIdx.map fun (e, j) => (List.range j).filter fun i => un i j && (match frz[i]? with | some x => decide (Cls.pair x.kind e.kind = some true) | none => false)
  frz.zipIdx.map fun (e, j) => { e with conf := confs.getD j [], log := confs.any fun c => c.contains j }

section before
variable {ops : Array Oper}

def stepBefore (acc : Array Nat) (o : Oper) : Array Nat :=
  acc.push (o.after.foldl (fun s e => if Region.binds .any e then s ||| 2 ^ e.on ||| acc.getD e.on 0 else s) 0)

theorem fold_bits (acc : Array Nat) : ∀ (l : List Edge) (s i : Nat), (l.foldl (fun s e => if Region.binds .any e then s ||| 2 ^ e.on ||| acc.getD e.on 0 else s) s).testBit i = true →
    s.testBit i = true ∨ ∃ e ∈ l, Region.binds .any e = true ∧ (i = e.on ∨ (acc.getD e.on 0).testBit i = true)
  | [], s, i, h => .inl h
  | e :: l, s, i, h => by
    rw [List.foldl_cons] at h
    rcases fold_bits acc l _ i h with q | ⟨e', he', q⟩
    · by_cases hb : Region.binds .any e = true
      · rw [if_pos hb] at q
        simp only [Nat.testBit_or, Bool.or_eq_true, Nat.testBit_two_pow, decide_eq_true_eq] at q
        rcases q with (q | q) | q
        · exact .inl q
        · exact .inr ⟨e, by simp, hb, .inl q.symm⟩
        · exact .inr ⟨e, by simp, hb, .inr q⟩
      · rw [if_neg hb] at q; exact .inl q
    · exact .inr ⟨e', by simp [he'], q⟩

def BeforeOk (ops : Array Oper) (acc : Array Nat) : Prop :=
  ∀ j, j < acc.size → ∀ i, (acc.getD j 0).testBit i = true → ∃ o, ops[j]? = some o ∧ ∃ e ∈ o.after, Region.binds .any e = true ∧ (i = e.on ∨ (e.on < j ∧ (acc.getD e.on 0).testBit i = true))

theorem beforeOk_step {acc : Array Nat} (h : BeforeOk ops acc) {o : Oper} (ho : ops[acc.size]? = some o) : BeforeOk ops (stepBefore acc o) := by
  intro j hj i hi
  unfold stepBefore at hj hi ⊢
  simp only [Array.size_push] at hj
  have old : ∀ m, m < acc.size → ∀ x, (acc.push x).getD m 0 = acc.getD m 0 := by
    intro m hm x
    simp [Array.getD_eq_getD_getElem?, Array.getElem?_push, Nat.ne_of_lt hm]
  by_cases hlt : j < acc.size
  · rw [old j hlt] at hi
    obtain ⟨o', h1, e, h2, h3, h4⟩ := h j hlt i hi
    refine ⟨o', h1, e, h2, h3, ?_⟩
    rcases h4 with q | ⟨q1, q2⟩
    · exact .inl q
    · exact .inr ⟨q1, by rw [old _ (by omega)]; exact q2⟩
  · have hje : j = acc.size := by omega
    subst hje
    rw [Array.getD_eq_getD_getElem?, Array.getElem?_push_size, Option.getD_some, ← Array.foldl_toList] at hi
    rcases fold_bits acc _ _ i hi with q | ⟨e, he, hb, q⟩
    · simp at q
    · refine ⟨o, ho, e, by simpa using he, hb, ?_⟩
      rcases q with q | q
      · exact .inl q
      · right
        have hlt2 : e.on < acc.size := by
          rcases Nat.lt_or_ge e.on acc.size with k | k
          · exact k
          · rw [Array.getD_eq_getD_getElem?, Array.getElem?_eq_none k] at q; simp at q
        exact ⟨hlt2, by rw [old _ hlt2]; exact q⟩

theorem beforeOk (ops : Array Oper) : BeforeOk ops (Region.before ops) ∧ (Region.before ops).size = ops.size := by
  have key : ∀ (l : List Oper) (acc : Array Nat), BeforeOk ops acc → (∀ j, l[j]? = if j < l.length then ops[acc.size + j]? else none) →
      BeforeOk ops (l.foldl stepBefore acc) ∧ (l.foldl stepBefore acc).size = acc.size + l.length := by
    intro l
    induction l with
    | nil => intro acc h _; exact ⟨h, rfl⟩
    | cons o l ih =>
      intro acc h hl
      have h0 := hl 0
      simp at h0
      have hs : (stepBefore acc o).size = acc.size + 1 := by simp [stepBefore]
      have := ih (stepBefore acc o) (beforeOk_step h h0.symm) (fun j => by
        have := hl (j + 1)
        simp only [List.getElem?_cons_succ, List.length_cons, Nat.add_lt_add_iff_right] at this
        rw [this, hs, show acc.size + 1 + j = acc.size + (j + 1) by omega])
      refine ⟨this.1, ?_⟩
      rw [List.foldl_cons, this.2, hs]; simp; omega
  have e : Region.before ops = ops.toList.foldl stepBefore #[] := by
    unfold Region.before; rw [← Array.foldl_toList]; rfl
  rw [e]
  have := key ops.toList #[] (fun j hj => by simp at hj) (fun j => by
    simp only [Array.getElem?_toList, Array.length_toList, List.size_toArray, List.length_nil, Nat.zero_add]
    split
    · rfl
    · rename_i hj; rw [Array.getElem?_eq_none (by omega)])
  refine ⟨this.1, by rw [this.2]; simp⟩

/-- What is executed is closed. -/
def ClosedL (ops : Array Oper) (l : Array Bool) : Prop :=
  ∀ i o, l.getD i false = true → ops[i]? = some o → ∀ e ∈ o.after, Region.binds .any e = true → l.getD e.on false = true

theorem before_listed {l : Array Bool} (hc : ClosedL ops l) : ∀ (j : Nat), j < ops.size → (∀ o, ops[j]? = some o → ∀ e ∈ o.after, Region.binds .any e = true → l.getD e.on false = true) →
    ∀ i, ((Region.before ops).getD j 0).testBit i = true → l.getD i false = true := by
  intro j
  induction j using Nat.strongRecOn with
  | _ j ih =>
    intro hj he i hi
    obtain ⟨hb, hs⟩ := beforeOk ops
    obtain ⟨o, h1, e, h2, h3, h4⟩ := hb j (by omega) i hi
    have hl := he o h1 e h2 h3
    rcases h4 with q | ⟨q1, q2⟩
    · rw [q]; exact hl
    · exact ih e.on q1 (by omega) (fun o' ho' => hc e.on o' hl ho') i q2
end before

/-- A run of operations, laid out. -/
structure Trace (C : Ctx) (es : List EOper) (st st' : St) where
  F : Nat → AFrame
  H : Nat → Heap
  V : Nat → Value
  RD : Nat → List Nat
  WR : Nat → List Nat
  Wn : Nat → Bool
  L : Nat → Log
  F0 : F 0 = st.f
  H0 : H 0 = st.h
  Fn : F es.length = st'.f
  Hn : H es.length = st'.h
  wanted : ∀ j e, es[j]? = some e → EOper.wanted (F j) e.guard = some (Wn j)
  exec : ∀ j e, es[j]? = some e → Wn j = true → e.op.exec C e.frz (F j) (H j) = some (V j, H (j + 1), RD j, WR j)
  skip : ∀ j e, es[j]? = some e → Wn j = false → V j = undef ∧ H (j + 1) = H j ∧ RD j = [] ∧ WR j = []
  next : ∀ j e, es[j]? = some e → F (j + 1) = (F j).put e.dst (V j)
  clash : ∀ j e, es[j]? = some e → Wn j = true → (L j).clash e.conf (RD j) (WR j) = false
  log : ∀ j e, es[j]? = some e → ∀ x ∈ L j, x ∈ L (j + 1)

theorem trace_of {C : Ctx} : ∀ (es : List EOper) (k : Nat) (l : Log) (st st' : St), runOps C es k l st = some st' →
    ∃ T : Trace C es st st', T.L 0 = l ∧ ∀ j e, es[j]? = some e → T.Wn j = true → e.log = true → (k + j, T.RD j, T.WR j) ∈ T.L (j + 1)
  | [], k, l, st, st', h => by
    simp [runOps] at h; subst h
    exact ⟨⟨fun _ => st.f, fun _ => st.h, fun _ => undef, fun _ => [], fun _ => [], fun _ => false, fun _ => l, rfl, rfl, rfl, rfl, by simp, by simp, by simp, by simp, by simp, by simp⟩, rfl, by simp⟩
  | e :: es, k, l, st, st', h => by
    unfold runOps at h
    split at h
    · rename_i hw
      split at h
      · rename_i v hh rd wr hx
        split at h
        · cases h
        · rename_i hcl
          obtain ⟨T, hL, hlog⟩ := trace_of es (k + 1) _ _ _ h
          refine ⟨⟨fun j => if j = 0 then st.f else T.F (j - 1), fun j => if j = 0 then st.h else T.H (j - 1), fun j => if j = 0 then v else T.V (j - 1), fun j => if j = 0 then rd else T.RD (j - 1),
            fun j => if j = 0 then wr else T.WR (j - 1), fun j => if j = 0 then true else T.Wn (j - 1), fun j => if j = 0 then l else T.L (j - 1), rfl, rfl, by simp [T.Fn], by simp [T.Hn], ?_, ?_, ?_, ?_, ?_, ?_⟩, rfl, ?_⟩
          · intro j e' he
            cases j with
            | zero => simp at he; subst he; simpa using hw
            | succ j => simpa using T.wanted j e' (by simpa using he)
          · intro j e' he hn
            cases j with
            | zero => simp at he; subst he; simpa [T.H0] using hx
            | succ j => simpa using T.exec j e' (by simpa using he) (by simpa using hn)
          · intro j e' he hn
            cases j with
            | zero => simp at hn
            | succ j => simpa using T.skip j e' (by simpa using he) (by simpa using hn)
          · intro j e' he
            cases j with
            | zero => simp at he; subst he; simp [T.F0]
            | succ j => simpa using T.next j e' (by simpa using he)
          · intro j e' he hn
            cases j with
            | zero => simp at he; subst he; simpa using hcl
            | succ j => simpa using T.clash j e' (by simpa using he) (by simpa using hn)
          · intro j e' he x hx'
            cases j with
            | zero =>
              simp at he; subst he
              simp only [if_true] at hx'
              simp only [Nat.zero_add, Nat.one_ne_zero, if_false, Nat.sub_self, hL]
              split
              · exact List.mem_cons_of_mem _ hx'
              · exact hx'
            | succ j => simpa using T.log j e' (by simpa using he) x (by simpa using hx')
          · intro j e' he hn hl
            cases j with
            | zero => simp at he; subst he; simp [hL, hl]
            | succ j =>
              have := hlog j e' (by simpa using he) (by simpa using hn) hl
              simpa [Nat.add_assoc, Nat.add_comm 1 j] using this
      · cases h
    · rename_i hw
      obtain ⟨T, hL, hlog⟩ := trace_of es (k + 1) _ _ _ h
      refine ⟨⟨fun j => if j = 0 then st.f else T.F (j - 1), fun j => if j = 0 then st.h else T.H (j - 1), fun j => if j = 0 then undef else T.V (j - 1), fun j => if j = 0 then [] else T.RD (j - 1),
        fun j => if j = 0 then [] else T.WR (j - 1), fun j => if j = 0 then false else T.Wn (j - 1), fun j => if j = 0 then l else T.L (j - 1), rfl, rfl, by simp [T.Fn], by simp [T.Hn], ?_, ?_, ?_, ?_, ?_, ?_⟩, rfl, ?_⟩
      · intro j e' he
        cases j with
        | zero => simp at he; subst he; simpa using hw
        | succ j => simpa using T.wanted j e' (by simpa using he)
      · intro j e' he hn
        cases j with
        | zero => simp at hn
        | succ j => simpa using T.exec j e' (by simpa using he) (by simpa using hn)
      · intro j e' he hn
        cases j with
        | zero => simp [T.H0]
        | succ j => simpa using T.skip j e' (by simpa using he) (by simpa using hn)
      · intro j e' he
        cases j with
        | zero => simp at he; subst he; simp [T.F0]
        | succ j => simpa using T.next j e' (by simpa using he)
      · intro j e' he hn
        cases j with
        | zero => simp at hn
        | succ j => simpa using T.clash j e' (by simpa using he) (by simpa using hn)
      · intro j e' he x hx'
        cases j with
        | zero => simpa [hL] using hx'
        | succ j => simpa using T.log j e' (by simpa using he) x (by simpa using hx')
      · intro j e' he hn hl
        cases j with
        | zero => simp at hn
        | succ j =>
          have := hlog j e' (by simpa using he) (by simpa using hn) hl
          simpa [Nat.add_assoc, Nat.add_comm 1 j] using this
    · cases h
end Go.Abs
/- A region whose operations may come in more than one order: each order does what the text's order does. -/
namespace Go.Abs

theorem E.append_live {h : Heap} {es bytes : Nat} {s x : Value} {out : Out} (hr : E.append h es bytes s x = some out) : ∀ i ∈ out.reads ++ out.eff.writes, ∃ b, h.get i = some b := by
  have had : ∀ {v : Value} {m : Nat} {xs : List Value} {rd : List Nat}, E.added h es v = some (m, xs, rd) → ∀ i ∈ rd, ∃ b, h.get i = some b := by
    intro v m xs rd ha i hi
    unfold E.added at ha
    repeat' (first | split at ha | (cases ha; done))
    all_goals (cases ha; first | (simp at hi; done) | (simp at hi; subst hi; exact ⟨_, by assumption⟩))
  unfold E.append at hr
  split at hr
  · cases hr
  · rename_i m xs rd ha
    have h1 := had ha
    repeat' (first | split at hr | (cases hr; done))
    all_goals
      cases hr
      intro i hi
      first
        | exact h1 i (by simpa [Eff.writes] using hi)
        | (simp [Eff.writes] at hi
           rcases hi with q | q | q
           · subst q; exact ⟨_, by assumption⟩
           · exact h1 i q
           · subst q; exact ⟨_, by assumption⟩)

theorem EOp.run_cls {lim : Nat} {h : Heap} {ev : Operand → Option Value} {e : EOp} {out : Out} (hr : e.run lim h ev = some out) :
    (∀ i ∈ out.reads ++ out.eff.writes, ∃ b, h.get i = some b) ∧
    (e.cls = .P → out.reads = [] ∧ out.eff = .none) ∧ (e.cls = .A → out.reads = [] ∧ out.eff.writes = []) ∧ (e.cls = .R → out.eff = .none) ∧ (e.cls = .W → out.reads = [] ∧ out.eff.pushes = false) ∧ e.cls ≠ .C ∧ e.cls ≠ .F := by
  cases e
  case append es bytes s x =>
    simp only [EOp.run] at hr
    split at hr
    · exact ⟨E.append_live hr, by simp [EOp.cls], by simp [EOp.cls], by simp [EOp.cls], by simp [EOp.cls], by simp [EOp.cls], by simp [EOp.cls]⟩
    · cases hr
  case appendT es bytes s x =>
    simp only [EOp.run] at hr
    split at hr
    · exact ⟨fun i hi => (let ⟨b, q⟩ := E.append_live hr i hi; let ⟨b0, _, r, _⟩ := trim_get q; ⟨b0, r⟩), by simp [EOp.cls], by simp [EOp.cls], by simp [EOp.cls], by simp [EOp.cls], by simp [EOp.cls], by simp [EOp.cls]⟩
    · cases hr
  all_goals
    simp only [EOp.run, Option.map_eq_some_iff] at hr
    repeat' (first | split at hr | (cases hr; done))
    all_goals first
      | (obtain ⟨_, _, rfl⟩ := hr
         refine ⟨?_, by simp [EOp.cls], by simp [EOp.cls, Eff.writes], by simp [EOp.cls], by simp [EOp.cls, Eff.pushes], by simp [EOp.cls], by simp [EOp.cls]⟩
         intro i hi
         simp [Eff.writes] at hi
         try (subst hi; exact ⟨_, by assumption⟩))
      | (simp only [Option.map_eq_some_iff] at hr
         obtain ⟨_, _, rfl⟩ := hr
         refine ⟨?_, by simp [EOp.cls], by simp [EOp.cls, Eff.writes], by simp [EOp.cls], by simp [EOp.cls, Eff.pushes], by simp [EOp.cls], by simp [EOp.cls]⟩
         intro i hi
         simp [Eff.writes] at hi
         try (subst hi; exact ⟨_, by assumption⟩))
      | (cases hr
         refine ⟨?_, by simp [EOp.cls], by simp [EOp.cls, Eff.writes], by simp [EOp.cls], by simp [EOp.cls, Eff.pushes], by simp [EOp.cls], by simp [EOp.cls]⟩
         intro i hi
         simp [Eff.writes] at hi
         try (subst hi; exact ⟨_, by assumption⟩))

theorem Eff.get_other (h : Heap) (e : Eff) {i : Nat} (hi : i < h.length) (hw : i ∉ e.writes) : (e.apply h).get i = h.get i := by
  cases e with
  | none => rfl
  | push b => exact Heap.get_push_lt b hi
  | write j b => exact Heap.get_put_ne _ (fun q => hw (by simp [Eff.writes, q]))
  | move j b =>
    have : ((h.put j Option.none).push b).get i = (h.put j Option.none).get i := Heap.get_push_lt b (by simpa using hi)
    simp only [Eff.apply]
    rw [this]
    exact Heap.get_put_ne _ (fun q => hw (by simp [Eff.writes, q]))

/-- What one operation does, by its kind. -/
structure ExecFacts (C : Ctx) (f : AFrame) (e : EOper) (h h' : Heap) (v : Value) (rd wr : List Nat) : Prop where
  mono : h.length ≤ h'.length
  keep : e.kind = .P ∨ e.kind = .R ∨ e.kind = .W → h'.length = h.length
  wrk : ∀ x ∈ wr, e.kind = .W ∨ e.kind = .M
  rdk : ∀ x ∈ rd, e.kind = .R ∨ e.kind = .M
  live : ∀ x ∈ rd ++ wr, ∃ b, h.get x = some b
  other : ∀ x, x < h.length → x ∉ wr → e.kind ≠ .C → h'.get x = h.get x
  plain : e.kind ≠ .C → e.kind ≠ .F → ∃ out, e.op.run C.lim h (C.eval f) = some out ∧ v = out.val ∧ h' = out.eff.apply h ∧ rd = out.reads ∧ wr = out.eff.writes
  call : e.kind = .C ∨ e.kind = .F → e.op.cls = .C
  kept : Kept C.lim h h'

theorem exec_facts {P : Program} {X : Fix} {C : Ctx} (A : Around P X C) {e : EOper} {f : AFrame} {h h' : Heap} {v : Value} {rd wr : List Nat} (hx : e.op.exec C e.frz f h = some (v, h', rd, wr)) (hl : X.h0.length ≤ h.length) :
    ExecFacts C f e h h' v rd wr := by
  have hlim := A.lim
  have plain : e.op.cls ≠ .C → ∀ out, e.op.run C.lim h (C.eval f) = some out → v = out.val → h' = out.eff.apply h → rd = out.reads → wr = out.eff.writes → ExecFacts C f e h h' v rd wr := by
    intro hn out hr hv hh hrd hwr
    obtain ⟨c1, c2, c3, c4, c5, c6, c7⟩ := EOp.run_cls hr
    have hk : e.kind = e.op.cls := by unfold EOper.kind; rw [if_neg (fun q => hn q.1)]
    subst hh hrd hwr hv
    refine ⟨Eff.length_le _ _, ?_, ?_, ?_, c1, fun x h1 h2 _ => Eff.get_other h _ h1 h2, fun _ _ => ⟨out, hr, rfl, rfl, rfl, rfl⟩, ?_, ?_⟩
    · rw [hk, Eff.pushes_one]
      rintro (q | q | q)
      · rw [(c2 q).2]; rfl
      · rw [c4 q]; rfl
      · rw [(c5 q).2]; rfl
    · intro x hx
      rw [hk]
      cases hc : e.op.cls with
      | W => exact .inl rfl
      | M => exact .inr rfl
      | P => rw [(c2 hc).2] at hx; simp [Eff.writes] at hx
      | A => rw [(c3 hc).2] at hx; simp at hx
      | R => rw [c4 hc] at hx; simp [Eff.writes] at hx
      | F => exact absurd hc c7
      | C => exact absurd hc c6
    · intro x hx
      rw [hk]
      cases hc : e.op.cls with
      | W => rw [(c5 hc).1] at hx; simp at hx
      | M => exact .inr rfl
      | P => rw [(c2 hc).1] at hx; simp at hx
      | A => rw [(c3 hc).1] at hx; simp at hx
      | R => exact .inl rfl
      | F => exact absurd hc c7
      | C => exact absurd hc c6
    · rw [hk]; rintro (q | q)
      · exact q
      · exact absurd q c7
    · exact EOp.run_kept hr (by omega)
  have callcase : e.op.cls = .C → ∀ (gf : FuncId) (vs : List Value), C.callAt e.frz gf vs h = some (v, h') → rd = [] → wr = [] → ExecFacts C f e h h' v rd wr := by
    intro hcl gf vs hc h1 h2
    subst h1 h2
    obtain ⟨_, q2, q3, _⟩ := callAt_ok A.call (by omega) hc
    have hk : e.kind = if e.frz = true then .F else .C := by
      unfold EOper.kind; rw [hcl]
      cases e.frz <;> simp
    refine ⟨q2, ?_, by simp, by simp, by simp, ?_, ?_, fun _ => hcl, q3⟩
    · rw [hk]; split <;> simp
    · intro x hx _ hn
      have hfz : e.frz = true := by
        cases hf : e.frz with
        | true => rfl
        | false => rw [hk, hf] at hn; simp at hn
      rw [hfz] at hc
      unfold Ctx.callAt at hc
      rw [if_pos rfl] at hc
      simp only [Option.map_eq_some_iff] at hc
      obtain ⟨⟨u, k⟩, _, e⟩ := hc
      cases e
      exact Heap.get_append_lt (by assumption)
    · rw [hk]; split <;> simp
  have roundcase : e.op.cls = .C → ∀ (b : Nat) (vs : List Value), C.roundAt e.frz b vs h = some (v, h') → rd = [] → wr = [] → ExecFacts C f e h h' v rd wr := by
    intro hcl b vs hc h1 h2
    subst h1 h2
    obtain ⟨hf, q2, q3, _⟩ := roundAt_ok A.round (by omega) hc
    have hk : e.kind = .C := by unfold EOper.kind; rw [hcl, hf]; simp
    refine ⟨q2, by rw [hk]; simp, by simp, by simp, by simp, ?_, by rw [hk]; simp, fun _ => hcl, q3⟩
    intro x _ _ hn; exact absurd hk hn
  cases hop : e.op
  case call gf args =>
    rw [hop] at hx
    simp only [EOp.exec] at hx
    split at hx
    · rename_i vs hvs
      simp only [Option.map_eq_some_iff] at hx
      obtain ⟨⟨u, k⟩, hc, hx⟩ := hx
      cases hx
      exact callcase (by rw [hop]; rfl) gf vs hc rfl rfl
    · cases hx
  case callVal x args =>
    rw [hop] at hx
    simp only [EOp.exec] at hx
    split at hx
    · rename_i gf first captured vs hxv hvs
      simp only [Option.map_eq_some_iff] at hx
      obtain ⟨⟨u, k⟩, hc, hx⟩ := hx
      cases hx
      exact callcase (by rw [hop]; rfl) gf _ hc rfl rfl
    · split at hx
      · simp only [Option.map_eq_some_iff] at hx
        obtain ⟨⟨u, k⟩, hc, hx⟩ := hx
        cases hx
        exact roundcase (by rw [hop]; rfl) _ _ hc rfl rfl
      · cases hx
    · cases hx
  all_goals
    rw [hop] at hx
    simp only [EOp.exec, Option.map_eq_some_iff] at hx
    obtain ⟨out, hr, hx⟩ := hx
    cases hx
    have hr' : e.op.run C.lim h (C.eval f) = some out := by rw [hop]; exact hr
    exact plain (EOp.run_cls hr').2.2.2.2.2.1 out hr' rfl rfl rfl rfl

theorem put_get_ne {f : AFrame} {d : Option Nat} {v : Value} {t : Nat} (h : d ≠ some t) : (f.put d v).get t = f.get t := by
  cases d with
  | none => rfl
  | some d => simp only [AFrame.put, AFrame.get]; rw [if_neg (fun e => h (by rw [e]))]

theorem put_get_eq {f : AFrame} {v : Value} {t : Nat} : (f.put (some t) v).get t = some v := by
  simp [AFrame.put, AFrame.get]
end Go.Abs
/- A region whose operations may come in more than one order: the invariant of what has been executed. -/
namespace Go.Abs

/-- What is fixed while a region runs. -/
structure Reg (P : Program) (X : Fix) (C : Ctx) (ops : Array Oper) (es : List EOper) (st st' : St) where
  A : Around P X C
  T : Trace C es st st'
  len : es.length = ops.size
  ok : ∀ (j : Nat) o e, ops[j]? = some o → es[j]? = some e → OperOk P C.glob X.n o e ∧ compileGuard ops o.guard = some e.guard
  draw : drawOk ops es = true
  logged : ∀ (j : Nat) e, es[j]? = some e → T.Wn j = true → e.log = true → (j, T.RD j, T.WR j) ∈ T.L (j + 1)
  base : X.h0.length ≤ st.h.length

section
variable {P : Program} {X : Fix} {C : Ctx} {ops : Array Oper} {es : List EOper} {st st' : St}

theorem Reg.op (R : Reg P X C ops es st st') {j : Nat} (hj : j < ops.size) : ∃ o e, ops[j]? = some o ∧ es[j]? = some e ∧ OperOk P C.glob X.n o e ∧ compileGuard ops o.guard = some e.guard := by
  refine ⟨ops[j], es[j]'(by rw [R.len]; exact hj), by simp, by simp, R.ok j _ _ (by simp) (by simp)⟩

theorem Reg.base_le (R : Reg P X C ops es st st') : ∀ j, j ≤ ops.size → X.h0.length ≤ (R.T.H j).length ∧ (∀ i, i ≤ j → (R.T.H i).length ≤ (R.T.H j).length) := by
  intro j
  induction j with
  | zero => intro _; exact ⟨by rw [R.T.H0]; exact R.base, fun i hi => by rw [Nat.le_zero.1 hi]; exact Nat.le_refl _⟩
  | succ j ih =>
    intro hj
    obtain ⟨h1, h2⟩ := ih (by omega)
    obtain ⟨o, e, ho, he, _, _⟩ := R.op (show j < ops.size by omega)
    have hm : (R.T.H j).length ≤ (R.T.H (j + 1)).length := by
      cases hw : R.T.Wn j with
      | true => exact (exec_facts R.A (R.T.exec j e he hw) h1).mono
      | false => rw [(R.T.skip j e he hw).2.1]; exact Nat.le_refl _
    refine ⟨by omega, fun i hi => ?_⟩
    rcases Nat.lt_or_ge i (j + 1) with q | q
    · have := h2 i (by omega); omega
    · rw [show i = j + 1 by omega]; exact Nat.le_refl _

theorem Reg.facts (R : Reg P X C ops es st st') {j : Nat} {e : EOper} (hj : j < ops.size) (he : es[j]? = some e) (hw : R.T.Wn j = true) :
    ExecFacts C (R.T.F j) e (R.T.H j) (R.T.H (j + 1)) (R.T.V j) (R.T.RD j) (R.T.WR j) :=
  exec_facts R.A (R.T.exec j e he hw) (R.base_le j (by omega)).1

/-- Operation i writes or makes block x. -/
def Reg.touch (R : Reg P X C ops es st st') (x i : Nat) : Prop :=
  x ∈ R.T.WR i ∨ ((R.T.H i).length ≤ x ∧ x < (R.T.H (i + 1)).length) ∨ (R.T.Wn i = true ∧ ∃ e, es[i]? = some e ∧ e.kind = .C)

def isL (l : Array Bool) (i : Nat) : Prop := l.getD i false = true

def Reg.cut (R : Reg P X C ops es st st') (l : Array Bool) (x j0 : Nat) : Prop := ∀ i, i < ops.size → R.touch x i → (isL l i ↔ i < j0)

def cutT (ops : Array Oper) (l : Array Bool) (t j0 : Nat) : Prop := ∀ (i : Nat) o, ops[i]? = some o → o.dst = some t → (isL l i ↔ i < j0)

structure DInv (R : Reg P X C ops es st st') (l : Array Bool) (a : Act) (w : World) : Prop where
  ex : ∃ ρ g, (∀ j0 t u, j0 ≤ ops.size → (R.T.F j0).get t = some u → cutT ops l t j0 → ∃ v', a.tmps[t]? = some v' ∧ VRel (ρ.below (R.T.H j0).length) u v') ∧
    Sim X.K X.Own ρ g w ∧ (∀ x j0 b L, j0 ≤ ops.size → R.cut l x j0 → (R.T.H j0).get x = some b → ρ x = some L → g x = some b ∧ BlkOk X.K (ρ.below (R.T.H j0).length) L b w.heap[L.blk]?) ∧
    (∀ x L, ρ x = some L → x < (R.T.H 0).length ∨ ∃ j, j < ops.size ∧ isL l j ∧ (R.T.H j).length ≤ x ∧ x < (R.T.H (j + 1)).length) ∧
    (∀ i, i < X.h0.length → ρ i = X.ρ0 i) ∧ (∀ i L, ρ i = some L → X.h0.length ≤ i → X.Own L.blk ∧ L.blk < w.heap.size) ∧
    (∀ i x, i < ops.size → isL l i → x ∈ R.T.WR i → ∃ L, ρ x = some L)
  closed : ClosedL ops l
  sizeL : l.size = ops.size
  frame : Frame X.Own X.w0 w
  defers : a.defers = X.marks.map fun D => { target := .collected D, args := #[] }
  size : a.tmps.size = X.n

theorem pairOk_use {b : Array Nat} {i j : Nat} {oi oj : Oper} {ei ej : EOper} (h : pairOk ops es b i j = true) (hi : ops[i]? = some oi) (hj : ops[j]? = some oj) (hei : es[i]? = some ei) (hej : es[j]? = some ej) :
    (b.getD j 0).testBit i = true ∨ (Oper.apart ops oi oj = true ∧ (Cls.pair ei.kind ej.kind = some false ∨ (Cls.pair ei.kind ej.kind = some true ∧ ei.log = true ∧ i ∈ ej.conf))) := by
  unfold pairOk at h
  rw [hi, hj, hei, hej] at h
  simp only [Bool.or_eq_true, Bool.and_eq_true] at h
  rcases h with h | ⟨h1, h2⟩
  · exact .inl h
  · right
    refine ⟨h1, ?_⟩
    split at h2
    · rename_i q; exact .inl q
    · rename_i q
      simp only [Bool.and_eq_true, List.contains_iff_mem] at h2
      exact .inr ⟨q, h2.1, h2.2⟩
    · cases h2

theorem Reg.pair (R : Reg P X C ops es st st') {i j : Nat} (hij : i < j) (hj : j < ops.size) {oi oj : Oper} {ei ej : EOper} (h1 : ops[i]? = some oi) (h2 : ops[j]? = some oj) (h3 : es[i]? = some ei) (h4 : es[j]? = some ej) :
    ((Region.before ops).getD j 0).testBit i = true ∨ (Oper.apart ops oi oj = true ∧ (Cls.pair ei.kind ej.kind = some false ∨ (Cls.pair ei.kind ej.kind = some true ∧ ei.log = true ∧ i ∈ ej.conf))) := by
  have h := R.draw
  unfold drawOk at h
  simp only [Bool.and_eq_true] at h
  have := List.all_eq_true.1 h.2 j (by simpa using hj)
  exact pairOk_use (List.all_eq_true.1 this i (by simpa using hij)) h1 h2 h3 h4

/-- The log grows. -/
theorem Reg.logged_later (R : Reg P X C ops es st st') {i : Nat} {e : EOper} (he : es[i]? = some e) (hw : R.T.Wn i = true) (hl : e.log = true) : ∀ j, i < j → j ≤ ops.size → (i, R.T.RD i, R.T.WR i) ∈ R.T.L j := by
  intro j
  induction j with
  | zero => intro h; omega
  | succ j ih =>
    intro hij hj
    rcases Nat.lt_or_ge i j with q | q
    · obtain ⟨o, e', _, he', _, _⟩ := R.op (show j < ops.size by omega)
      exact R.T.log j e' he' _ (ih q (by omega))
    · rw [show j = i by omega]; exact R.logged i e he hw hl

theorem clash_false {l : Log} {conf rd wr : List Nat} (h : l.clash conf rd wr = false) {i : Nat} {rd' wr' : List Nat} (hi : i ∈ conf) (hm : (i, rd', wr') ∈ l) :
    (∀ x ∈ wr, x ∉ rd' ∧ x ∉ wr') ∧ (∀ x ∈ wr', x ∉ rd) := by
  unfold Log.clash at h
  rw [List.any_eq_false] at h
  have h1 := h i hi
  simp only [Bool.not_eq_true, List.any_eq_false] at h1
  have h2 := h1 _ hm
  simp only [beq_self_eq_true, Bool.true_and, Bool.or_eq_false_iff] at h2
  have h3 : ¬ ((wr.any fun x => rd'.contains x || wr'.contains x) = true) ∧ ¬ ((wr'.any fun x => rd.contains x) = true) := ⟨by rw [h2.1]; simp, by rw [h2.2]; simp⟩
  clear h2
  simp only [List.any_eq_true, Bool.or_eq_true, List.contains_iff_mem, not_exists, not_and, not_or] at h3
  have h2 := h3
  exact ⟨fun x hx => ⟨fun q => (h2.1 x hx).1 q, fun q => (h2.1 x hx).2 q⟩, fun x hx q => h2.2 x hx q⟩

/-- Two operations whose blocks are compared touch other blocks. -/
theorem Reg.apart (R : Reg P X C ops es st st') {i j : Nat} (hij : i < j) (hj : j < ops.size) {ei ej : EOper} (h3 : es[i]? = some ei) (h4 : es[j]? = some ej) (hlog : ei.log = true) (hconf : i ∈ ej.conf) :
    (∀ x ∈ R.T.WR j, x ∉ R.T.RD i ∧ x ∉ R.T.WR i) ∧ (∀ x ∈ R.T.WR i, x ∉ R.T.RD j) := by
  cases hwj : R.T.Wn j with
  | false => rw [(R.T.skip j ej h4 hwj).2.2.1, (R.T.skip j ej h4 hwj).2.2.2]; exact ⟨fun x hx => by simp at hx, fun x _ => by simp⟩
  | true =>
    cases hwi : R.T.Wn i with
    | false => rw [(R.T.skip i ei h3 hwi).2.2.1, (R.T.skip i ei h3 hwi).2.2.2]; exact ⟨fun x _ => by simp, fun x hx => by simp at hx⟩
    | true => exact clash_false (R.T.clash j ej h4 hwj) hconf (R.logged_later h3 hwi hlog j hij (by omega))

/-- The kind of an operation that touches a block. -/
theorem Reg.touch_kind (R : Reg P X C ops es st st') {x i : Nat} {e : EOper} (hi : i < ops.size) (he : es[i]? = some e) (ht : R.touch x i) :
    R.T.Wn i = true ∧ ((x ∈ R.T.WR i ∧ (e.kind = .W ∨ e.kind = .M)) ∨ ((R.T.H i).length ≤ x ∧ x < (R.T.H (i + 1)).length ∧ (e.kind = .A ∨ e.kind = .M ∨ e.kind = .F ∨ e.kind = .C)) ∨ e.kind = .C) := by
  have hw : R.T.Wn i = true := by
    cases hw : R.T.Wn i with
    | true => rfl
    | false =>
      obtain ⟨_, q1, _, q2⟩ := R.T.skip i e he hw
      rcases ht with t | t | ⟨t, _⟩
      · rw [q2] at t; simp at t
      · rw [q1] at t; omega
      · rw [hw] at t; exact t
  have F := R.facts hi he hw
  refine ⟨hw, ?_⟩
  rcases ht with t | t | ⟨_, e', he', t⟩
  · exact .inl ⟨t, F.wrk x t⟩
  · refine .inr (.inl ⟨t.1, t.2, ?_⟩)
    have hne : (R.T.H (i + 1)).length ≠ (R.T.H i).length := by omega
    cases hk : e.kind with
    | P => exact absurd (F.keep (.inl hk)) hne
    | R => exact absurd (F.keep (.inr (.inl hk))) hne
    | W => exact absurd (F.keep (.inr (.inr hk))) hne
    | A => exact .inl rfl
    | M => exact .inr (.inl rfl)
    | F => exact .inr (.inr (.inl rfl))
    | C => exact .inr (.inr (.inr rfl))
  · rw [he] at he'; cases he'; exact .inr (.inr t)

/-- Where nothing touches it, a block stays. -/
theorem Reg.untouched (R : Reg P X C ops es st st') {x : Nat} {j : Nat} (hj : j < ops.size) (hx : x < (R.T.H j).length) (ht : ¬ R.touch x j) : (R.T.H (j + 1)).get x = (R.T.H j).get x := by
  obtain ⟨o, e, _, he, _, _⟩ := R.op hj
  cases hw : R.T.Wn j with
  | false => rw [(R.T.skip j e he hw).2.1]
  | true =>
    have F := R.facts hj he hw
    exact F.other x hx (fun q => ht (.inl q)) (fun q => ht (.inr (.inr ⟨hw, e, he, q⟩)))

theorem Reg.untouched_range (R : Reg P X C ops es st st') {x : Nat} {i : Nat} : ∀ j, i ≤ j → j ≤ ops.size → x < (R.T.H i).length → (∀ k, i ≤ k → k < j → ¬ R.touch x k) → (R.T.H j).get x = (R.T.H i).get x := by
  intro j
  induction j with
  | zero => intro hi _ _ _; rw [Nat.le_zero.1 hi]
  | succ j ih =>
    intro hij hj hx ht
    rcases Nat.lt_or_ge i (j + 1) with q | q
    · rw [R.untouched (show j < ops.size by omega) (by have := (R.base_le j (by omega)).2 i (by omega); omega) (ht j (by omega) (by omega))]
      exact ih (by omega) (by omega) hx fun k h1 h2 => ht k h1 (by omega)
    · rw [show i = j + 1 by omega]

/-- A block is made once. -/
theorem Reg.born_once (R : Reg P X C ops es st st') {x i j : Nat} (hi : i < ops.size) (hj : j < ops.size) (h1 : (R.T.H i).length ≤ x) (h2 : x < (R.T.H (i + 1)).length) (h3 : (R.T.H j).length ≤ x) (h4 : x < (R.T.H (j + 1)).length) : i = j := by
  rcases Nat.lt_trichotomy i j with q | q | q
  · have := (R.base_le j (by omega)).2 (i + 1) (by omega); omega
  · exact q
  · have := (R.base_le i (by omega)).2 (j + 1) (by omega); omega

theorem unwritten_get {F : Nat → AFrame} {V : Nat → Value} {n t : Nat} (hn : ∀ (j : Nat) e, es[j]? = some e → F (j + 1) = (F j).put e.dst (V j)) (hl : es.length = n) {i : Nat} : ∀ j, i ≤ j → j ≤ n → (∀ (k : Nat) e, i ≤ k → k < j → es[k]? = some e → e.dst ≠ some t) → (F j).get t = (F i).get t := by
  intro j
  induction j with
  | zero => intro hi _ _; rw [Nat.le_zero.1 hi]
  | succ j ih =>
    intro hij hj ht
    rcases Nat.lt_or_ge i (j + 1) with q | q
    · have he : es[j]? = some (es[j]'(by omega)) := by simp
      rw [hn j _ he, put_get_ne (ht j _ (by omega) (by omega) he)]
      exact ih (by omega) (by omega) fun k e h1 h2 => ht k e h1 (by omega)
    · rw [show i = j + 1 by omega]
end
end Go.Abs
/- A region whose operations may come in more than one order: one step of any order. -/
namespace Go.Abs

theorem Eff.upd_touched {g g2 : Nat → Option Blk} {id x : Nat} {e : Eff} (h : x ∈ e.writes ∨ (e.pushes = true ∧ x = id)) : e.upd g id x = e.upd g2 id x := by
  cases e with
  | none => rcases h with h | h <;> simp [Eff.writes, Eff.pushes] at h
  | push b => rcases h with h | h <;> simp [Eff.writes, Eff.pushes] at h; subst h; simp [Eff.upd]
  | write i b => rcases h with h | h <;> simp [Eff.writes, Eff.pushes] at h; subst h; simp [Eff.upd]
  | move i b => rcases h with h | h <;> simp [Eff.writes, Eff.pushes] at h <;> subst h <;> simp [Eff.upd]

theorem Eff.upd_other {g : Nat → Option Blk} {id x : Nat} {e : Eff} (h1 : x ∉ e.writes) (h2 : ¬ (e.pushes = true ∧ x = id)) : e.upd g id x = g x := by
  cases e with
  | none => rfl
  | push b => simp [Eff.pushes] at h2; simp [Eff.upd, h2]
  | write i b => simp [Eff.writes] at h1; simp [Eff.upd, h1]
  | move i b => simp [Eff.writes] at h1; simp [Eff.pushes] at h2; simp [Eff.upd, h1, h2]

theorem isL_set {l : Array Bool} {i j : Nat} (hj : j < l.size) : isL (l.setIfInBounds j true) i ↔ isL l i ∨ i = j := by
  unfold isL
  by_cases h : j = i
  · subst h; simp [Array.getD_eq_getD_getElem?, hj]
  · simp only [Array.getD_eq_getD_getElem?]
    rw [Array.getElem?_setIfInBounds_ne h]
    constructor
    · exact .inl
    · rintro (q | q)
      · exact q
      · exact absurd q.symm h

section
variable {P : Program} {X : Fix} {C : Ctx} {ops : Array Oper} {es : List EOper} {st st' : St}

/-- What may come next. -/
structure Next (R : Reg P X C ops es st st') (l : Array Bool) (j : Nat) : Prop where
  lt : j < ops.size
  out : ¬ isL l j
  edges : ∀ o, ops[j]? = some o → ∀ e ∈ o.after, Region.binds .any e = true → isL l e.on

theorem next_of_ready (R : Reg P X C ops es st st') {l : Array Bool} {j : Nat} (h : j ∈ Region.ready .any ops l) (hs : l.size = ops.size) : Next R l j := by
  unfold Region.ready at h
  rw [List.mem_filter] at h
  obtain ⟨h1, h2⟩ := h
  have hj : j < ops.size := by simpa using h1
  simp only [Bool.and_eq_true, Bool.not_eq_true'] at h2
  refine ⟨hj, ?_, ?_⟩
  · intro q
    unfold isL at q
    have h3 := h2.1
    rw [Array.getD_eq_getD_getElem?, Array.getElem?_eq_getElem (by omega)] at q h3
    simp at q h3
    rw [h3] at q; cases q
  · intro o ho e he hb
    have h3 := h2.2
    rw [ho] at h3
    simp only [Option.map_some, Option.getD_some] at h3
    have := Array.all_eq_true_iff_forall_mem.1 h3 e he
    simpa [hb, isL] using this

theorem Next.before {R : Reg P X C ops es st st'} {l : Array Bool} {j : Nat} (N : Next R l j) (hc : ClosedL ops l) {i : Nat} (h : ((Region.before ops).getD j 0).testBit i = true) : isL l i :=
  before_listed hc j N.lt N.edges i h

theorem Next.later {R : Reg P X C ops es st st'} {l : Array Bool} {j : Nat} (N : Next R l j) (hc : ClosedL ops l) {i : Nat} (hi : i < ops.size) (h : ((Region.before ops).getD i 0).testBit j = true) : ¬ isL l i := by
  intro q
  exact N.out (before_listed hc i hi (fun o ho e he hb => hc i o q ho e he hb) j h)

/-- The relation behind a step. -/
theorem dinv_next {R : Reg P X C ops es st st'} {l : Array Bool} {a : Act} {w : World} {j : Nat} (N : Next R l j) (hcl : ClosedL ops l) (hsl : l.size = ops.size) (hframe : Frame X.Own X.w0 w) (hdef : a.defers = X.marks.map fun D => { target := .collected D, args := #[] }) (hsize : a.tmps.size = X.n)
    {ρ : Ren} {o : Oper} (ho : ops[j]? = some o)
    (hF : ∀ j0 t u, j0 ≤ ops.size → (R.T.F j0).get t = some u → cutT ops l t j0 → ∃ v', a.tmps[t]? = some v' ∧ VRel (ρ.below (R.T.H j0).length) u v')
    (hdom : ∀ x L, ρ x = some L → x < (R.T.H 0).length ∨ ∃ j, j < ops.size ∧ isL l j ∧ (R.T.H j).length ≤ x ∧ x < (R.T.H (j + 1)).length)
    (h0 : ∀ i, i < X.h0.length → ρ i = X.ρ0 i) (hnew : ∀ i L, ρ i = some L → X.h0.length ≤ i → X.Own L.blk ∧ L.blk < w.heap.size)
    (hwr : ∀ i x, i < ops.size → isL l i → x ∈ R.T.WR i → ∃ L, ρ x = some L)
    {ρ' : Ren} {g' : Nat → Option Blk} {v' : Value} {w' : World} (hle : ρ.le ρ') (hv : VRel (ρ'.below (R.T.H (j + 1)).length) (R.T.V j) v') (hs' : Sim X.K X.Own ρ' g' w') (hfr : Frame X.Own w w')
    (hcut : ∀ x j0 b L, j0 ≤ ops.size → R.cut (l.setIfInBounds j true) x j0 → (R.T.H j0).get x = some b → ρ' x = some L → g' x = some b ∧ BlkOk X.K (ρ'.below (R.T.H j0).length) L b w'.heap[L.blk]?)
    (hdom' : ∀ x L, ρ' x = some L → ρ x = some L ∨ ((R.T.H j).length ≤ x ∧ x < (R.T.H (j + 1)).length ∧ X.Own L.blk ∧ L.blk < w'.heap.size))
    (hwr' : ∀ x ∈ R.T.WR j, ∃ L, ρ' x = some L) : DInv R (l.setIfInBounds j true) (a.put o.dst v') w' := by
  have hj := N.lt
  have hjl : j < l.size := by omega
  obtain ⟨o', e, ho', he, hok, _⟩ := R.op hj
  rw [ho] at ho'; cases ho'
  refine ⟨⟨ρ', g', ?_, hs', hcut, ?_, ?_, ?_, ?_⟩, ?_, by simpa using hsl, hframe.trans hfr, by rw [put_defers']; exact hdef, by rw [put_size]; exact hsize⟩
  · intro j0 t u hj0 hu hct
    by_cases hd : o.dst = some t
    · have hlt : j < j0 := (hct j o ho hd).1 ((isL_set hjl).2 (.inr rfl))
      have hun : (R.T.F j0).get t = (R.T.F (j + 1)).get t := by
        refine unwritten_get (fun j e he => R.T.next j e he) R.len j0 (by omega) hj0 fun k ek h1 h2 hek hdk => ?_
        obtain ⟨ok, ek', hok', hek', hokk, _⟩ := R.op (show k < ops.size by omega)
        rw [hek] at hek'; cases hek'
        have hdk' : ok.dst = some t := by rw [← hokk.dst]; exact hdk
        have hLk : isL l k := by
          rcases (isL_set hjl).1 ((hct k ok hok' hdk').2 h2) with q | q
          · exact q
          · omega
        rcases R.pair (show j < k by omega) (by omega) ho hok' he hek with q | ⟨q, _⟩
        · exact N.later hcl (by omega) q hLk
        · exact (Oper.apart_spec q).2.1 t hd hdk'
      rw [hun, R.T.next j e he, hok.dst, hd, put_get_eq] at hu
      cases hu
      refine ⟨v', ?_, hv.mono (Ren.below_mono ρ'.le_refl ((R.base_le j0 hj0).2 (j + 1) (by omega)))⟩
      have := hok.fits t hd
      simp [Act.put, hd, hsize, this]
    · obtain ⟨u', q1, q2⟩ := hF j0 t u hj0 hu (fun i oi hoi hdi => by
        have := hct i oi hoi hdi
        rw [isL_set hjl] at this
        have hne : i ≠ j := fun q => by subst q; rw [ho] at hoi; cases hoi; exact hd hdi
        simpa [hne] using this)
      refine ⟨u', ?_, q2.mono (Ren.below_mono hle (Nat.le_refl _))⟩
      cases hdd : o.dst with
      | none => simpa [Act.put] using q1
      | some d =>
        have : d ≠ t := fun q => hd (by rw [hdd, q])
        simp only [Act.put]
        rw [Array.getElem?_setIfInBounds_ne this]; exact q1
  · intro x L hx
    rcases hdom' x L hx with q | ⟨q1, q2, _⟩
    · rcases hdom x L q with p | ⟨k, p1, p2, p3⟩
      · exact .inl p
      · exact .inr ⟨k, p1, (isL_set hjl).2 (.inl p2), p3⟩
    · exact .inr ⟨j, hj, (isL_set hjl).2 (.inr rfl), q1, q2⟩
  · intro i hi
    have hb := (R.base_le j (by omega)).1
    cases q : ρ' i with
    | none =>
      cases q2 : ρ i with
      | none => rw [← h0 i hi]; exact q2.symm
      | some L => rw [hle i L q2] at q; cases q
    | some L =>
      rcases hdom' i L q with p | ⟨p, _⟩
      · rw [← h0 i hi]; exact p.symm
      · omega
  · intro i L hi hb
    rcases hdom' i L hi with p | ⟨_, _, p⟩
    · exact ⟨(hnew i L p hb).1, Nat.lt_of_lt_of_le (hnew i L p hb).2 hfr.size⟩
    · exact p
  · intro i x hi hl hx
    rcases (isL_set hjl).1 hl with q | q
    · obtain ⟨L, hL⟩ := hwr i x hi q hx
      exact ⟨L, hle x L hL⟩
    · subst q; exact hwr' x hx
  · intro i oi hl hoi ei hei hb
    have : isL (l.setIfInBounds j true) ei.on := by
      rw [isL_set hjl]
      rcases (isL_set hjl).1 hl with q | q
      · exact .inl (hcl i oi q hoi ei hei hb)
      · subst q; exact .inl (N.edges oi hoi ei hei hb)
    exact this

theorem tmp_looks {o : Oper} {t : Tmp} (h : Operand.tmp t ∈ o.op.operands) : t ∈ Oper.looksAt ops o := by
  unfold Oper.looksAt
  simp only [List.mem_append, List.mem_filterMap]
  left
  exact ⟨.tmp t, by simpa using h, rfl⟩

theorem guard_looks {o og : Oper} {g : Nat} {b : Bool} {d : Tmp} (hg : o.guard = some (g, b)) (ho : ops[g]? = some og) (hd : og.dst = some d) : d ∈ Oper.looksAt ops o := by
  unfold Oper.looksAt
  simp only [List.mem_append]
  right
  rw [hg]
  simp [ho, hd]

/-- Of a slot that an operation looks at just what stands ahead of it in the text has been written. -/
theorem Next.cutT {R : Reg P X C ops es st st'} {l : Array Bool} {j : Nat} (N : Next R l j) (hc : ClosedL ops l) {o : Oper} (ho : ops[j]? = some o) {t : Tmp} (ht : t ∈ Oper.looksAt ops o) : cutT ops l t j := by
  have hj := N.lt
  obtain ⟨o', e, ho', he, hok, _⟩ := R.op hj
  rw [ho] at ho'; cases ho'
  intro i oi hoi hd
  have hi : i < ops.size := (Array.getElem?_eq_some_iff.1 hoi).1
  obtain ⟨oi', ei, hoi', hei, _, _⟩ := R.op hi
  rw [hoi] at hoi'; cases hoi'
  rcases Nat.lt_trichotomy i j with q | q | q
  · refine ⟨fun _ => q, fun _ => ?_⟩
    rcases R.pair q hj hoi ho hei he with p | ⟨p, _⟩
    · exact N.before hc p
    · exact absurd ht ((Oper.apart_spec p).1 t hd)
  · subst q
    exact ⟨fun p => absurd p N.out, fun p => by omega⟩
  · refine ⟨fun p => ?_, fun p => by omega⟩
    exfalso
    rcases R.pair q hi ho hoi he hei with r | ⟨r, _⟩
    · exact N.later hc hi r p
    · exact (Oper.apart_spec r).2.2 t hd ht

theorem Next.wanted {R : Reg P X C ops es st st'} {l : Array Bool} {a : Act} {j : Nat} (N : Next R l j) (hc : ClosedL ops l) {o : Oper} (ho : ops[j]? = some o) {ρ : Ren}
    (hF : ∀ j0 t u, j0 ≤ ops.size → (R.T.F j0).get t = some u → Abs.cutT ops l t j0 → ∃ v', a.tmps[t]? = some v' ∧ VRel (ρ.below (R.T.H j0).length) u v') : Region.wanted o (yielded ops a.tmps) = R.T.Wn j := by
  have hj := N.lt
  obtain ⟨o', e, ho', he, hok, hgd⟩ := R.op hj
  rw [ho] at ho'; cases ho'
  have hw := R.T.wanted j e he
  unfold compileGuard at hgd
  split at hgd
  · rename_i hg
    have he2 := Option.some.inj hgd
    rw [← he2] at hw
    simp only [EOper.wanted, Option.some.injEq] at hw
    unfold Region.wanted
    rw [hg, ← hw]
  · rename_i g b hg
    split at hgd
    · rename_i og hog
      split at hgd
      · rename_i d hd
        have he2 := Option.some.inj hgd
        rw [← he2] at hw
        simp only [EOper.wanted] at hw
        unfold Region.wanted
        rw [hg]
        simp only
        have hcut := N.cutT hc ho (guard_looks (ops := ops) hg hog hd)
        split at hw
        · rename_i b' hb'
          obtain ⟨v', q1, q2⟩ := hF j d _ (by omega) hb' hcut
          obtain rfl := q2.bool_inv
          have hw2 := Option.some.inj hw
          rw [← hw2]
          simp [yielded, hog, hd, q1]
        · rename_i cs hu
          split at hw
          · rename_i hcs
            obtain ⟨v', q1, q2⟩ := hF j d _ (by omega) hu hcut
            obtain ⟨ys, rfl, hy⟩ := q2.tuple_inv
            have hw2 := Option.some.inj hw
            rw [← hw2]
            simp [yielded, hog, hd, q1]
          · cases hw
        · cases hw
      · cases hgd
    · cases hgd
end
end Go.Abs
/- A region whose operations may come in more than one order: all orders. -/
namespace Go.Abs
section
variable {P : Program} {X : Fix} {C : Ctx} {ops : Array Oper} {es : List EOper} {st st' : St}

/-- Of a block that a plain operation looks at just what stands ahead of it in the text has been written. -/
theorem Next.cut_plain {R : Reg P X C ops es st st'} {l : Array Bool} {j : Nat} (N : Next R l j) (hc : ClosedL ops l) {e : EOper} (he : es[j]? = some e) (_hw : R.T.Wn j = true) (_hk1 : e.kind ≠ .C) (_hk2 : e.kind ≠ .F)
    (F : ExecFacts C (R.T.F j) e (R.T.H j) (R.T.H (j + 1)) (R.T.V j) (R.T.RD j) (R.T.WR j)) {ρ : Ren}
    (hdom : ∀ x L, ρ x = some L → x < (R.T.H 0).length ∨ ∃ j, j < ops.size ∧ isL l j ∧ (R.T.H j).length ≤ x ∧ x < (R.T.H (j + 1)).length)
    {x : Nat} {L : Loc} (hx : x ∈ R.T.RD j ++ R.T.WR j) (hL : ρ x = some L) : R.cut l x j := by
  have hj := N.lt
  obtain ⟨o, e', ho, he', _, _⟩ := R.op hj
  rw [he] at he'; cases he'
  obtain ⟨b, hb⟩ := F.live x hx
  have hlt := Heap.get_lt hb
  have hkj : e.kind = .R ∨ e.kind = .W ∨ e.kind = .M := by
    rcases List.mem_append.1 hx with q | q
    · rcases F.rdk x q with p | p
      · exact .inl p
      · exact .inr (.inr p)
    · exact .inr (F.wrk x q)
  intro i hi ht
  obtain ⟨oi, ei, hoi, hei, _, _⟩ := R.op hi
  obtain ⟨hwi, hti⟩ := R.touch_kind hi hei ht
  rcases Nat.lt_trichotomy i j with q | q | q
  · refine ⟨fun _ => q, fun _ => ?_⟩
    rcases R.pair q hj hoi ho hei he with p | ⟨_, p⟩
    · exact N.before hc p
    · rcases hti with ⟨t1, t2⟩ | ⟨t1, t2, _⟩ | t
      · exfalso
        have hp : Cls.pair ei.kind e.kind = some true ∨ Cls.pair ei.kind e.kind = none := by
          rcases t2 with r | r <;> rcases hkj with s | s | s <;> rw [r, s] <;> simp [Cls.pair]
        rcases p with p | ⟨_, p1, p2⟩
        · rw [p] at hp; simp at hp
        · obtain ⟨a1, a2⟩ := R.apart q hj hei he p1 p2
          rcases List.mem_append.1 hx with m | m
          · exact a2 x t1 m
          · exact (a1 x m).2 t1
      · rcases hdom x L hL with r | ⟨k, r1, r2, r3, r4⟩
        · have := (R.base_le i (by omega)).2 0 (by omega); omega
        · rw [R.born_once hi r1 t1 t2 r3 r4]; exact r2
      · exfalso
        rw [t] at p
        rcases hkj with s | s | s <;> rw [s] at p <;> simp [Cls.pair] at p
  · subst q
    exact ⟨fun p => absurd p N.out, fun p => by omega⟩
  · refine ⟨fun hli => ?_, fun p => by omega⟩
    exfalso
    rcases R.pair q hi ho hoi he hei with p | ⟨_, p⟩
    · exact N.later hc hi p hli
    · rcases hti with ⟨t1, t2⟩ | ⟨t1, t2, _⟩ | t
      · have hp : Cls.pair e.kind ei.kind = some true ∨ Cls.pair e.kind ei.kind = none := by
          rcases t2 with r | r <;> rcases hkj with s | s | s <;> rw [r, s] <;> simp [Cls.pair]
        rcases p with p | ⟨_, p1, p2⟩
        · rw [p] at hp; simp at hp
        · obtain ⟨a1, a2⟩ := R.apart q hi he hei p1 p2
          rcases List.mem_append.1 hx with m | m
          · exact (a1 x t1).1 m
          · exact (a1 x t1).2 m
      · have := (R.base_le i (by omega)).2 j (by omega); omega
      · rw [t] at p
        rcases hkj with s | s | s <;> rw [s] at p <;> simp [Cls.pair] at p

/-- A block that is known and was there ahead of a call: just what stands ahead of the call in the text has been written. -/
theorem Next.cut_call {R : Reg P X C ops es st st'} {l : Array Bool} {j : Nat} (N : Next R l j) (hc : ClosedL ops l) {e : EOper} (he : es[j]? = some e) (hk : e.kind = .C ∨ e.kind = .F) {ρ : Ren}
    (hdom : ∀ x L, ρ x = some L → x < (R.T.H 0).length ∨ ∃ j, j < ops.size ∧ isL l j ∧ (R.T.H j).length ≤ x ∧ x < (R.T.H (j + 1)).length)
    {x : Nat} {L : Loc} (hx : x < (R.T.H j).length) (hL : ρ x = some L) : R.cut l x j := by
  have hj := N.lt
  obtain ⟨o, e', ho, he', _, _⟩ := R.op hj
  rw [he] at he'; cases he'
  intro i hi ht
  obtain ⟨oi, ei, hoi, hei, _, _⟩ := R.op hi
  obtain ⟨hwi, hti⟩ := R.touch_kind hi hei ht
  rcases Nat.lt_trichotomy i j with q | q | q
  · refine ⟨fun _ => q, fun _ => ?_⟩
    rcases R.pair q hj hoi ho hei he with p | ⟨_, p⟩
    · exact N.before hc p
    · rcases hti with ⟨t1, t2⟩ | ⟨t1, t2, _⟩ | t
      · exfalso
        rcases t2 with r | r <;> rcases hk with s | s <;> rw [r, s] at p <;> simp [Cls.pair] at p
      · rcases hdom x L hL with r | ⟨k, r1, r2, r3, r4⟩
        · have := (R.base_le i (by omega)).2 0 (by omega); omega
        · rw [R.born_once hi r1 t1 t2 r3 r4]; exact r2
      · exfalso
        rcases hk with s | s <;> rw [t, s] at p <;> simp [Cls.pair] at p
  · subst q
    exact ⟨fun p => absurd p N.out, fun p => by omega⟩
  · refine ⟨fun hli => ?_, fun p => by omega⟩
    exfalso
    rcases R.pair q hi ho hoi he hei with p | ⟨_, p⟩
    · exact N.later hc hi p hli
    · rcases hti with ⟨t1, t2⟩ | ⟨t1, t2, _⟩ | t
      · rcases t2 with r | r <;> rcases hk with s | s <;> rw [r, s] at p <;> simp [Cls.pair] at p
      · have := (R.base_le i (by omega)).2 j (by omega); omega
      · rcases hk with s | s <;> rw [t, s] at p <;> simp [Cls.pair] at p

/-- Ahead of a call that may write all that is known was made ahead of it in the text. -/
theorem Next.dom_call {R : Reg P X C ops es st st'} {l : Array Bool} {j : Nat} (N : Next R l j) (hc : ClosedL ops l) {e : EOper} (he : es[j]? = some e) (hk : e.kind = .C) {ρ : Ren}
    (hdom : ∀ x L, ρ x = some L → x < (R.T.H 0).length ∨ ∃ j, j < ops.size ∧ isL l j ∧ (R.T.H j).length ≤ x ∧ x < (R.T.H (j + 1)).length)
    {x : Nat} {L : Loc} (hL : ρ x = some L) : x < (R.T.H j).length := by
  have hj := N.lt
  obtain ⟨o, e', ho, he', _, _⟩ := R.op hj
  rw [he] at he'; cases he'
  rcases hdom x L hL with r | ⟨i, hi, hli, r3, r4⟩
  · have := (R.base_le j (by omega)).2 0 (by omega); omega
  · rcases Nat.lt_trichotomy i j with q | q | q
    · have := (R.base_le j (by omega)).2 (i + 1) (by omega); omega
    · subst q; exact absurd hli N.out
    · exfalso
      obtain ⟨oi, ei, hoi, hei, _, _⟩ := R.op hi
      obtain ⟨_, hti⟩ := R.touch_kind hi hei (x := x) (.inr (.inl ⟨r3, r4⟩))
      rcases R.pair q hi ho hoi he hei with p | ⟨_, p⟩
      · exact N.later hc hi p hli
      · rcases hti with ⟨t1, t2⟩ | ⟨_, _, t⟩ | t
        · rcases t2 with r | r <;> rw [r, hk] at p <;> simp [Cls.pair] at p
        · rcases t with r | r | r | r <;> rw [r, hk] at p <;> simp [Cls.pair] at p
        · rw [t, hk] at p; simp [Cls.pair] at p

/-- Behind operation j a block that it touches stays as j left it, as far as the cut goes. -/
theorem Next.cut_behind {R : Reg P X C ops es st st'} {l : Array Bool} {j : Nat} (N : Next R l j) (hc : ClosedL ops l) (hsl : l.size = ops.size) {ρ : Ren}
    (hdom : ∀ x L, ρ x = some L → x < (R.T.H 0).length ∨ ∃ j, j < ops.size ∧ isL l j ∧ (R.T.H j).length ≤ x ∧ x < (R.T.H (j + 1)).length)
    (hwr : ∀ i x, i < ops.size → isL l i → x ∈ R.T.WR i → ∃ L, ρ x = some L)
    {x j0 : Nat} (hj0 : j0 ≤ ops.size) (hcut : R.cut (l.setIfInBounds j true) x j0) (ht : R.touch x j) (hx : x < (R.T.H (j + 1)).length) : (R.T.H j0).get x = (R.T.H (j + 1)).get x := by
  have hj := N.lt
  have hjl : j < l.size := by omega
  obtain ⟨o, e, ho, he, _, _⟩ := R.op hj
  obtain ⟨hwj, htj⟩ := R.touch_kind hj he ht
  have hlt : j < j0 := (hcut j hj ht).1 ((isL_set hjl).2 (.inr rfl))
  refine R.untouched_range j0 (by omega) hj0 hx fun k h1 h2 htk => ?_
  have hk : k < ops.size := by omega
  obtain ⟨ok, ek, hok, hek, _, _⟩ := R.op hk
  obtain ⟨hwk, htk'⟩ := R.touch_kind hk hek htk
  have hlk : isL l k := by
    rcases (isL_set hjl).1 ((hcut k hk htk).2 h2) with q | q
    · exact q
    · omega
  rcases R.pair (show j < k by omega) hk ho hok he hek with p | ⟨_, p⟩
  · exact N.later hc hk p hlk
  · -- the kinds
    rcases htk' with ⟨t1, t2⟩ | ⟨t1, t2, t3⟩ | t
    · rcases htj with ⟨s1, s2⟩ | ⟨s1, s2, s3⟩ | s
      · have hp : Cls.pair e.kind ek.kind = some true := by rcases s2 with r | r <;> rcases t2 with u | u <;> rw [r, u] <;> rfl
        rcases p with p | ⟨_, p1, p2⟩
        · rw [p] at hp; cases hp
        · exact ((R.apart (show j < k by omega) hk he hek p1 p2).1 x t1).2 s1
      · obtain ⟨L, hL⟩ := hwr k x hk hlk t1
        rcases hdom x L hL with r | ⟨m, r1, r2, r3, r4⟩
        · have := (R.base_le j (by omega)).2 0 (by omega); omega
        · have := R.born_once hj r1 s1 s2 r3 r4
          subst this; exact N.out r2
      · rcases t2 with r | r <;> rw [s, r] at p <;> simp [Cls.pair] at p
    · have := (R.base_le k (by omega)).2 (j + 1) (by omega); omega
    · rcases htj with ⟨s1, s2⟩ | ⟨s1, s2, s3⟩ | s
      · rcases s2 with r | r <;> rw [t, r] at p <;> simp [Cls.pair] at p
      · rcases s3 with r | r | r | r <;> rw [t, r] at p <;> simp [Cls.pair] at p
      · rw [t, s] at p; simp [Cls.pair] at p

/-- A cut of what has been executed with j, at a block that j does not touch, is one without j. -/
theorem Next.cut_same {R : Reg P X C ops es st st'} {l : Array Bool} {j : Nat} (N : Next R l j) (hsl : l.size = ops.size) {x j0 : Nat} (hcut : R.cut (l.setIfInBounds j true) x j0) (ht : ¬ R.touch x j) : R.cut l x j0 := by
  have hjl : j < l.size := by have := N.lt; omega
  intro i hi hti
  have h1 := hcut i hi hti
  rw [isL_set hjl] at h1
  have hne : i ≠ j := fun q => by subst q; exact ht hti
  simpa [hne] using h1

theorem Reg.step (R : Reg P X C ops es st st') {l : Array Bool} {a : Act} {w : World} (I : DInv R l a w) {j : Nat} (hready : j ∈ Region.ready .any ops l) {K : Act → World → Prop} {Q : Exit → Act → World → Prop}
    (hK : ∀ a' w', DInv R (l.setIfInBounds j true) a' w' → K a' w') {ro : Option Nat} : wpOpIn (FW ro) 0 P ops Q j K a w := by
  obtain ⟨⟨ρ, g, hF, hs, hg, hdom, h0, hnew, hwr⟩, hcl, hsl, hframe, hdef, hsize⟩ := I
  have N := next_of_ready R hready hsl
  have hj := N.lt
  obtain ⟨o, e, ho, he, hok, _⟩ := R.op hj
  have hbase := (R.base_le j (by omega)).1
  have hlim := R.A.lim
  have hglob : GlobOk C.glob (ρ.below (R.T.H j).length) := R.A.globOk fun i hi => by
    unfold Ren.below; rw [if_pos (by omega)]; exact h0 i hi
  have hlow : (ρ.below (R.T.H j).length).le ρ := Ren.below_le _ _
  have hown : ∀ k, w.heap.size ≤ k → X.Own k := fun k hk => R.A.own k (by have := hframe.size; omega)
  have hev : ∀ x ∈ o.op.operands, ∀ v, C.eval (R.T.F j) x = some v → VRel (ρ.below (R.T.H j).length) v (a.eval x) := by
    intro x hx v hv
    cases x with
    | tmp t =>
      obtain ⟨v', q1, q2⟩ := hF j t v (by omega) hv (N.cutT hcl ho (tmp_looks (ops := ops) hx))
      simp only [Act.eval]
      rw [Array.getD_eq_getD_getElem?, q1]; exact q2
    | const c => exact eval_rel (C := C) (f := []) (a := a) (fun t u q => by simp [AFrame.get] at q) hglob (hok.opd _ hx) hv
    | global c => exact eval_rel (C := C) (f := []) (a := a) (fun t u q => by simp [AFrame.get] at q) hglob (hok.opd _ hx) hv
    | func c => exact eval_rel (C := C) (f := []) (a := a) (fun t u q => by simp [AFrame.get] at q) hglob (hok.opd _ hx) hv
  have hup : ∀ {j0}, j < j0 → j0 ≤ ops.size → (R.T.H (j + 1)).length ≤ (R.T.H j0).length := fun h1 h2 => (R.base_le _ h2).2 (j + 1) h1
  unfold wpOpIn
  rw [ho]
  simp only
  rw [N.wanted hcl ho hF]
  cases hw : R.T.Wn j with
  | false =>
    rw [if_neg (by simp)]
    obtain ⟨k1, k2, k3, k4⟩ := R.T.skip j e he hw
    have hnt : ∀ x, ¬ R.touch x j := by
      intro x ht
      have := (R.touch_kind hj he ht).1
      rw [hw] at this; cases this
    refine ⟨fun _ _ => trivial, hK _ _ (dinv_next N hcl hsl hframe hdef hsize ho hF hdom h0 hnew hwr (ρ' := ρ) (g' := g) (v' := undef) ρ.le_refl ?_ hs (.refl _ _) ?_ (fun x L q => .inl q) ?_)⟩
    · rw [k1]; exact .tuple rfl (fun i x y hx => by simp at hx)
    · intro x j0 b L hj0 hcut hb hL
      exact hg x j0 b L hj0 (N.cut_same hsl hcut (hnt x)) hb hL
    · rw [k4]; intro x hx; simp at hx
  | true =>
    rw [if_pos rfl]
    have F := R.facts hj he hw
    by_cases hkc : e.kind = .C ∨ e.kind = .F
    · -- a call
      have hcls := F.call hkc
      have hx := R.T.exec j e he hw
      -- the heap that the call sees
      have hcutj : ∀ x b L, (R.T.H j).get x = some b → ρ x = some L → g x = some b ∧ BlkOk X.K (ρ.below (R.T.H j).length) L b w.heap[L.blk]? := fun x b L q1 q2 => hg x j b L (by omega) (N.cut_call hcl he hkc hdom (Heap.get_lt q1) q2) q1 q2
      have hsH : Sim X.K X.Own (ρ.below (R.T.H j).length) (R.T.H j).get w :=
        ⟨fun i b L q1 q2 => (hcutj i b L q1 (hlow _ _ q2)).2, fun i b L q1 q2 q3 => hs.own i b L (hcutj i b L q1 (hlow _ _ q2)).1 (hlow _ _ q2) q3,
          fun i k b c L M q q1 q2 q3 q4 q5 => hs.excl i k b c L M q (hcutj i b L q1 (hlow _ _ q4)).1 q2 (hcutj k c M q3 (hlow _ _ q5)).1 (hlow _ _ q4) (hlow _ _ q5)⟩
      have hdj : ∀ x L, ρ.below (R.T.H j).length x = some L → x < (R.T.H j).length := fun x L q => (Ren.below_some.1 q).1
      have fin : ∀ (gf : FuncId) (vs args : List Value), C.callAt e.frz gf vs (R.T.H j) = some (R.T.V j, R.T.H (j + 1)) → R.T.WR j = [] → LRel (VRel (ρ.below (R.T.H j).length)) vs args → (callable P gf = true → (execOp a.eval o).run P w = .ok (.enter gf args.toArray) w) → o.wpIn (FW ro) 0 P a w K Q := by
        intro gf vs args hc hwr0 hr hrun
        rcases hkc with hkC | hkF
        · -- it may write
          have hd : ∀ x L, ρ x = some L → x < (R.T.H j).length := fun x L q => N.dom_call hcl he hkC hdom q
          have hρ : ρ.below (R.T.H j).length = ρ := by
            funext x
            unfold Ren.below
            split
            · rfl
            · rename_i q
              cases q2 : ρ x with
              | none => rfl
              | some L => exact absurd (hd x L q2) q
          rw [hρ] at hr hsH hdj
          obtain ⟨c1, c2, c3, c4⟩ := callAt_ok R.A.call (by omega) hc
          refine wpIn_of_wp hok.op <| call_wp (hrun c1) ((c4 ρ w X.Own args hown ⟨by rw [← hρ]; exact hglob, R.A.laid.frame hframe⟩ hsH hdj hr).mono ?_) (R := fun v' w' => ∃ ρ', (∀ i, i < (R.T.H j).length → ρ' i = ρ i) ∧ VRel ρ' (R.T.V j) v' ∧ Sim X.K X.Own ρ' (R.T.H (j + 1)).get w' ∧
            (∀ i L, ρ' i = some L → i < (R.T.H (j + 1)).length) ∧ (∀ i L, ρ' i = some L → (R.T.H j).length ≤ i → X.Own L.blk ∧ L.blk < w'.heap.size) ∧ Frame X.Own w w') ?_
          · rintro e w' ⟨v', ρ', rfl, q⟩; exact ⟨v', rfl, ρ', q⟩
          · rintro v' w' ⟨ρ', q1, q2, q3, q4, q5, q6⟩
            refine hK _ _ (dinv_next N hcl hsl hframe hdef hsize ho hF hdom h0 hnew hwr (ren_le hd q1) (q2.mono (Ren.le_below ρ'.le_refl q4)) q3 q6 ?_ ?_ ?_)
            · intro x j0 b L hj0 hcut hb hL
              have hxl := q4 x L hL
              have ht : R.touch x j := .inr (.inr ⟨hw, e, he, hkC⟩)
              have hjj : j < j0 := (hcut j hj ht).1 ((isL_set (by omega)).2 (.inr rfl))
              have hb2 : (R.T.H (j + 1)).get x = some b := by rw [← N.cut_behind hcl hsl hdom hwr hj0 hcut ht hxl]; exact hb
              exact ⟨hb2, (q3.blk x b L hb2 hL).mono (Ren.le_below ρ'.le_refl fun i M q => by have := q4 i M q; have := hup hjj hj0; omega)⟩
            · intro x L hL
              rcases Nat.lt_or_ge x (R.T.H j).length with r | r
              · rw [q1 x r] at hL; exact .inl hL
              · exact .inr ⟨r, q4 x L hL, q5 x L hL r⟩
            · rw [hwr0]; intro x hx; simp at hx
        · -- it finds nothing that it may write
          have hfrz : e.frz = true := by
            unfold EOper.kind at hkF
            split at hkF
            · rename_i q; exact q.2
            · rw [hcls] at hkF; cases hkF
          unfold Ctx.callAt at hc
          rw [if_pos hfrz] at hc
          simp only [Option.map_eq_some_iff] at hc
          obtain ⟨⟨u, k⟩, hk, hc⟩ := hc
          simp only [Prod.mk.injEq] at hc
          obtain ⟨hu, hHk⟩ := hc
          subst hu
          obtain ⟨c1, c2, c3, c4⟩ := R.A.call _ _ _ _ _ _ (by simpa using (show C.lim ≤ (R.T.H j).length by omega)) hk
          rw [Heap.length_freeze] at c2
          have hlen : (R.T.H (j + 1)).length = k.length := by rw [← hHk]; simp; omega
          have hget : ∀ x, (R.T.H j).length ≤ x → (R.T.H (j + 1)).get x = k.get x := fun x hx => by
            rw [← hHk, Heap.get_append_ge (by omega), Heap.get_drop]; congr 1; omega
          have hmid : ∀ x L, (R.T.H j).length ≤ x → x < (R.T.H (j + 1)).length → ρ x ≠ some L := fun x L h1 h2 q => by
            rcases hdom x L q with r | ⟨m, r1, r2, r3, r4⟩
            · have := (R.base_le j (by omega)).2 0 (by omega); omega
            · have := R.born_once hj r1 h1 h2 r3 r4
              subst this; exact N.out r2
          refine wpIn_of_wp hok.op <| call_wp (hrun c1) ((c4 _ w (fun k => w.heap.size ≤ k) args (fun _ q => q) ⟨hglob, (R.A.laid.frame hframe).own fun i _ q => hown i q⟩ hsH.freeze (by simpa using hdj) hr).mono ?_) (R := fun v' w' => ∃ ρ2, (∀ i, i < (R.T.H j).length → ρ2 i = ρ.below (R.T.H j).length i) ∧ VRel ρ2 (R.T.V j) v' ∧ Sim X.K (fun k => w.heap.size ≤ k) ρ2 k.get w' ∧
            (∀ i L, ρ2 i = some L → i < k.length) ∧ (∀ i L, ρ2 i = some L → (R.T.H j).length ≤ i → w.heap.size ≤ L.blk ∧ L.blk < w'.heap.size) ∧ Frame (fun k => w.heap.size ≤ k) w w') ?_
          · rintro e w' ⟨v', ρ', rfl, q⟩
            simp only [Heap.length_freeze] at q
            exact ⟨v', rfl, ρ', q⟩
          · rintro v' w' ⟨ρ2, q1, q2, q3, q4, q5, q6⟩
            let ρ' : Ren := fun x => if x < (R.T.H (j + 1)).length then ρ2 x else ρ x
            let g' : Nat → Option Blk := fun x => if (R.T.H j).length ≤ x ∧ x < (R.T.H (j + 1)).length then k.get x else g x
            have lowE : ∀ x, x < (R.T.H j).length → ρ' x = ρ x := fun x hx => by
              show (if _ then _ else _) = _
              rw [if_pos (by omega), q1 x hx]; unfold Ren.below; rw [if_pos hx]
            have highE : ∀ x, (R.T.H (j + 1)).length ≤ x → ρ' x = ρ x := fun x hx => by
              show (if _ then _ else _) = _
              rw [if_neg (by omega)]
            have midE : ∀ x, x < (R.T.H (j + 1)).length → ρ' x = ρ2 x := fun x hx => by
              show (if _ then _ else _) = _
              rw [if_pos hx]
            have outE : ∀ x, ¬ ((R.T.H j).length ≤ x ∧ x < (R.T.H (j + 1)).length) → ρ' x = ρ x ∧ g' x = g x := fun x hx => by
              refine ⟨?_, by show (if _ then _ else _) = _; rw [if_neg hx]⟩
              rcases Nat.lt_or_ge x (R.T.H j).length with r | r
              · exact lowE x r
              · exact highE x (by omega)
            have inG : ∀ x, (R.T.H j).length ≤ x ∧ x < (R.T.H (j + 1)).length → g' x = k.get x := fun x hx => by show (if _ then _ else _) = _; rw [if_pos hx]
            have hle : ρ.le ρ' := fun x L q => by
              by_cases hm : (R.T.H j).length ≤ x ∧ x < (R.T.H (j + 1)).length
              · exact absurd q (hmid x L hm.1 hm.2)
              · rw [(outE x hm).1]; exact q
            have hle2 : ρ2.le ρ' := fun x L q => by rw [midE x (by have := q4 x L q; omega)]; exact q
            have hle2b : ∀ {n}, (R.T.H (j + 1)).length ≤ n → ρ2.le (ρ'.below n) := fun h => Ren.le_below hle2 fun i L q => by have := q4 i L q; omega
            have hsame : ∀ x b L, g x = some b → ρ x = some L → w'.heap[L.blk]? = w.heap[L.blk]? := fun x b L e0 e1 => q6.block _ (hs.lt x b L e0 e1) (fun q => by have := hs.lt x b L e0 e1; omega)
            have hsame2 : ∀ {ρx : Ren} {b : Blk} {L : Loc}, BlkOk X.K ρx L b w.heap[L.blk]? → w'.heap[L.blk]? = w.heap[L.blk]? := fun {ρx b L} hb => by
              obtain ⟨x, hx, _⟩ := hb.there
              have := (Array.getElem?_eq_some_iff.1 hx).1
              exact q6.block _ this (fun q => by omega)
            refine hK _ _ (dinv_next N hcl hsl hframe hdef hsize ho hF hdom h0 hnew hwr (ρ' := ρ') (g' := g') hle (q2.mono (hle2b (Nat.le_refl _))) ⟨?_, ?_, ?_⟩ (q6.weaken fun i _ hi => hown i hi) ?_ ?_ ?_)
            · intro x b L h1 h2
              by_cases hm : (R.T.H j).length ≤ x ∧ x < (R.T.H (j + 1)).length
              · rw [inG x hm] at h1; rw [midE x hm.2] at h2
                exact (q3.blk x b L h1 h2).mono hle2
              · rw [(outE x hm).1] at h2; rw [(outE x hm).2] at h1
                rw [hsame x b L h1 h2]; exact (hs.blk x b L h1 h2).mono hle
            · intro x b L h1 h2 h3
              by_cases hm : (R.T.H j).length ≤ x ∧ x < (R.T.H (j + 1)).length
              · rw [midE x hm.2] at h2
                exact hown _ (q5 x L h2 hm.1).1
              · rw [(outE x hm).1] at h2; rw [(outE x hm).2] at h1
                exact hs.own x b L h1 h2 h3
            · intro x y b c L M hxy h1 h2 h3 h4 h5
              by_cases hm : (R.T.H j).length ≤ x ∧ x < (R.T.H (j + 1)).length
              · rw [inG x hm] at h1; rw [midE x hm.2] at h4
                by_cases hn : (R.T.H j).length ≤ y ∧ y < (R.T.H (j + 1)).length
                · rw [inG y hn] at h3; rw [midE y hn.2] at h5
                  exact q3.excl x y b c L M hxy h1 h2 h3 h4 h5
                · rw [(outE y hn).1] at h5; rw [(outE y hn).2] at h3
                  have k1 := (q5 x L h4 hm.1).1
                  have k2 := hs.lt y c M h3 h5
                  omega
              · rw [(outE x hm).1] at h4; rw [(outE x hm).2] at h1
                by_cases hn : (R.T.H j).length ≤ y ∧ y < (R.T.H (j + 1)).length
                · rw [midE y hn.2] at h5
                  have k1 := (q5 y M h5 hn.1).1
                  have k2 := hs.lt x b L h1 h4
                  omega
                · rw [(outE y hn).1] at h5; rw [(outE y hn).2] at h3
                  exact hs.excl x y b c L M hxy h1 h2 h3 h4 h5
            · intro x j0 b L hj0 hcut hb hL
              by_cases hm : (R.T.H j).length ≤ x ∧ x < (R.T.H (j + 1)).length
              · have ht : R.touch x j := .inr (.inl hm)
                have hjj : j < j0 := (hcut j hj ht).1 ((isL_set (by omega)).2 (.inr rfl))
                have hb2 : k.get x = some b := by rw [← hget x hm.1, ← N.cut_behind hcl hsl hdom hwr hj0 hcut ht hm.2]; exact hb
                rw [midE x hm.2] at hL
                exact ⟨by rw [inG x hm]; exact hb2, (q3.blk x b L hb2 hL).mono (hle2b (hup hjj hj0))⟩
              · have ht : ¬ R.touch x j := by
                  rintro (t | t | ⟨_, e', he', t⟩)
                  · rw [hwr0] at t; simp at t
                  · exact hm t
                  · rw [he] at he'; cases he'; rw [hkF] at t; cases t
                rw [(outE x hm).1] at hL
                obtain ⟨p1, p2⟩ := hg x j0 b L hj0 (N.cut_same hsl hcut ht) hb hL
                exact ⟨by rw [(outE x hm).2]; exact p1, by rw [hsame2 p2]; exact p2.mono (Ren.below_mono hle (Nat.le_refl _))⟩
            · intro x L hL
              by_cases hm : (R.T.H j).length ≤ x ∧ x < (R.T.H (j + 1)).length
              · rw [midE x hm.2] at hL
                exact .inr ⟨hm.1, hm.2, ⟨hown _ (q5 x L hL hm.1).1, (q5 x L hL hm.1).2⟩⟩
              · rw [(outE x hm).1] at hL; exact .inl hL
            · rw [hwr0]; intro x hx; simp at hx
      have finR : ∀ (b : Nat) (vs args : List Value) (L0 : Loc), C.roundAt e.frz b vs (R.T.H j) = some (R.T.V j, R.T.H (j + 1)) → R.T.WR j = [] → LRel (VRel (ρ.below (R.T.H j).length)) vs args → ρ.below (R.T.H j).length b = some L0 → L0.map = true → L0.tot = 1 →
          (∀ fn tmps as bd, (Instr.yield L0.blk args.toArray).run P w = .ok (.round L0.blk fn tmps as bd) w → (execOp a.eval o).run P w = .ok (.round L0.blk fn tmps as bd) w) → o.wpIn (FW ro) 0 P a w K Q := by
        intro b vs args L0 hc hwr0 hr hL0 hk0 ht0 hrun
        have hkC : e.kind = .C := by
          obtain ⟨hf, _⟩ := roundAt_ok R.A.round (by omega) hc
          unfold EOper.kind; rw [hcls, hf]; simp
        have hd : ∀ x L, ρ x = some L → x < (R.T.H j).length := fun x L q => N.dom_call hcl he hkC hdom q
        have hρ : ρ.below (R.T.H j).length = ρ := by
          funext x
          unfold Ren.below
          split
          · rfl
          · rename_i q
            cases q2 : ρ x with
            | none => rfl
            | some L => exact absurd (hd x L q2) q
        rw [hρ] at hr hsH hdj
        obtain ⟨_, c2, c3, c4⟩ := roundAt_ok R.A.round (by omega) hc
        obtain ⟨fn, tmps, as, bd, hy, hrn⟩ := c4 ρ w X.Own args L0 hown ⟨by rw [← hρ]; exact hglob, R.A.laid.frame hframe⟩ hsH hdj hr (hlow _ _ hL0) hk0 ht0
        refine round_wpIn hok.op (hrun _ _ _ _ hy) (hrn.mono ?_) (R := fun v' w' => ∃ ρ', (∀ i, i < (R.T.H j).length → ρ' i = ρ i) ∧ VRel ρ' (R.T.V j) v' ∧ Sim X.K X.Own ρ' (R.T.H (j + 1)).get w' ∧
          (∀ i L, ρ' i = some L → i < (R.T.H (j + 1)).length) ∧ (∀ i L, ρ' i = some L → (R.T.H j).length ≤ i → X.Own L.blk ∧ L.blk < w'.heap.size) ∧ Frame X.Own w w') ?_
        · rintro e w' ⟨v', ρ', rfl, q⟩; exact ⟨v', rfl, ρ', q⟩
        · rintro v' w' ⟨ρ', q1, q2, q3, q4, q5, q6⟩
          refine hK _ _ (dinv_next N hcl hsl hframe hdef hsize ho hF hdom h0 hnew hwr (ren_le hd q1) (q2.mono (Ren.le_below ρ'.le_refl q4)) q3 q6 ?_ ?_ ?_)
          · intro x j0 b L hj0 hcut hb hL
            have hxl := q4 x L hL
            have ht : R.touch x j := .inr (.inr ⟨hw, e, he, hkC⟩)
            have hjj : j < j0 := (hcut j hj ht).1 ((isL_set (by omega)).2 (.inr rfl))
            have hb2 : (R.T.H (j + 1)).get x = some b := by rw [← N.cut_behind hcl hsl hdom hwr hj0 hcut ht hxl]; exact hb
            exact ⟨hb2, (q3.blk x b L hb2 hL).mono (Ren.le_below ρ'.le_refl fun i M q => by have := q4 i M q; have := hup hjj hj0; omega)⟩
          · intro x L hL
            rcases Nat.lt_or_ge x (R.T.H j).length with r | r
            · rw [q1 x r] at hL; exact .inl hL
            · exact .inr ⟨r, q4 x L hL, q5 x L hL r⟩
          · rw [hwr0]; intro x hx; simp at hx
      cases hop : e.op <;> rw [hop] at hcls hx <;> simp only [EOp.cls, reduceCtorEq] at hcls
      case call gf args =>
        simp only [EOp.exec] at hx
        obtain ⟨c, hoc, hcal, rfl, _⟩ := compile_call (by have := hok.op; rwa [hop] at this)
        split at hx
        · rename_i vs hvs
          simp only [Option.map_eq_some_iff] at hx
          obtain ⟨⟨u, k⟩, hc, hx⟩ := hx
          simp only [Prod.mk.injEq] at hx
          obtain ⟨rfl, rfl, _, hwr0⟩ := hx
          have hargs : LRel (VRel (ρ.below (R.T.H j).length)) vs (c.args.toList.map a.eval) := mapM_rel hvs fun x hm => hev x (by rw [hoc]; simp [Op.operands, Call.operands]; exact .inr (by simpa using hm))
          exact fin gf vs _ hc hwr0.symm hargs fun hcl => run_call_func hoc hcal hcl
        · cases hx
      case callVal xo args =>
        simp only [EOp.exec] at hx
        obtain ⟨c, hoc, hcal, rfl⟩ := compile_callVal (by have := hok.op; rwa [hop] at this)
        split at hx
        · rename_i gf first captured vs hxv hvs
          simp only [Option.map_eq_some_iff] at hx
          obtain ⟨⟨u, k⟩, hc, hx⟩ := hx
          simp only [Prod.mk.injEq] at hx
          obtain ⟨rfl, rfl, _, hwr0⟩ := hx
          have hargs : LRel (VRel (ρ.below (R.T.H j).length)) vs (c.args.toList.map a.eval) := mapM_rel hvs fun x hm => hev x (by rw [hoc]; simp [Op.operands, Call.operands]; exact .inr (by simpa using hm))
          have hxr := hev xo (by rw [hoc]; simp [Op.operands, Call.operands, hcal]) _ hxv
          obtain ⟨fi, ca, hxe, l1, l2⟩ := hxr.func_inv
          exact fin gf _ _ hc hwr0.symm ((l1.append hargs).append l2) fun hcl => run_call_val hoc hcal hxe hcl
        · rename_i n first c0 vs hxv hvs
          have hargs : LRel (VRel (ρ.below (R.T.H j).length)) vs (c.args.toList.map a.eval) := mapM_rel hvs fun x hm => hev x (by rw [hoc]; simp [Op.operands, Call.operands]; exact .inr (by simpa using hm))
          have hxr := hev xo (by rw [hoc]; simp [Op.operands, Call.operands, hcal]) _ hxv
          obtain ⟨b, L0, rfl, hL0, hk0, ht0, hxe⟩ := hxr.yield_inv
          simp only [Option.map_eq_some_iff] at hx
          obtain ⟨⟨u, k⟩, hc, hx⟩ := hx
          simp only [Prod.mk.injEq] at hx
          obtain ⟨rfl, rfl, _, hwr0⟩ := hx
          exact finR b vs _ L0 hc hwr0.symm hargs hL0 hk0 ht0 fun fn tmps as bd hy => run_yield_val hoc hcal hxe hy
        · cases hx
    · -- any other operation
      have hk1 : e.kind ≠ .C := fun q => hkc (.inl q)
      have hk2 : e.kind ≠ .F := fun q => hkc (.inr q)
      obtain ⟨out, hr, hv, hh, hrd, hwrj⟩ := F.plain hk1 hk2
      have hok0 := EOp.run_ok hr
      have hplen := Eff.pushes_one (R.T.H j) out.eff
      rw [← hh] at hplen
      have hid : out.eff.pushes = true → ρ (R.T.H j).length = none := by
        intro hp
        cases q : ρ (R.T.H j).length with
        | none => rfl
        | some L =>
          exfalso
          rw [hp, if_pos rfl] at hplen
          rcases hdom _ L q with r | ⟨k, r1, r2, r3, r4⟩
          · have := (R.base_le j (by omega)).2 0 (by omega); omega
          · have := R.born_once hj r1 (Nat.le_refl _) (by omega) r3 r4
            subst this; exact N.out r2
      refine wpIn_of_wp hok.op <| step_low hok hr hown hlow hev hs hid ?_ ?_ ?_
      · intro x hx L hL
        rw [← hrd, ← hwrj] at hx
        obtain ⟨b, hb⟩ := F.live x hx
        rw [hb]
        exact (hg x j b L (by omega) (N.cut_plain hcl he hw hk1 hk2 F hdom hx hL) hb hL).1
      · intro x hx b L hb hL
        rw [← hrd, ← hwrj] at hx
        exact (hg x j b L (by omega) (N.cut_plain hcl he hw hk1 hk2 F hdom hx (hlow _ _ hL)) hb (hlow _ _ hL)).2
      · intro v' w' ρ' ρb' hle hleb hdomb hvr hs2 hfr2 hdom2 hwr2 hoth htch
        have hnext : ∀ i L, ρb' i = some L → i < (R.T.H (j + 1)).length := fun i L q => by
          rcases hdomb i L q with r | ⟨r1, r2⟩
          · have := (Ren.below_some.1 r).1; have := F.mono; omega
          · rw [r2, if_pos rfl] at hplen; omega
        rw [← hv] at hvr
        refine hK _ _ (dinv_next N hcl hsl hframe hdef hsize ho hF hdom h0 hnew hwr hle (hvr.mono (Ren.le_below hleb hnext)) hs2 hfr2 ?_ ?_ ?_)
        · intro x j0 b L hj0 hcut hb hL
          by_cases ht : R.touch x j
          · have htt : x ∈ out.eff.writes ∨ (out.eff.pushes = true ∧ x = (R.T.H j).length) := by
              rcases (R.touch_kind hj he ht).2 with ⟨q, _⟩ | ⟨q1, q2, _⟩ | q
              · left; rw [← hwrj]; exact q
              · right
                cases hp : out.eff.pushes with
                | true => rw [hp, if_pos rfl] at hplen; exact ⟨rfl, by omega⟩
                | false => rw [hp] at hplen; simp at hplen; omega
              · exact absurd q hk1
            have hxl : x < (R.T.H (j + 1)).length := by
              rcases htt with q | ⟨q1, q2⟩
              · obtain ⟨b', hb'⟩ := F.live x (by rw [hwrj]; simp [q])
                have := Heap.get_lt hb'; have := F.mono; omega
              · rw [q1, if_pos rfl] at hplen; omega
            have hjj : j < j0 := (hcut j hj ht).1 ((isL_set (by omega)).2 (.inr rfl))
            have hgx : out.eff.upd g (R.T.H j).length x = some b := by
              rw [Eff.upd_touched htt (g2 := (R.T.H j).get), ← Eff.upd_apply _ _ hok0, ← hh, ← N.cut_behind hcl hsl hdom hwr hj0 hcut ht hxl]
              exact hb
            exact ⟨hgx, (htch x b L htt hgx hL).mono (Ren.below_mono hle (by have := hup hjj hj0; have := F.mono; omega))⟩
          · have hnp : ¬ (out.eff.pushes = true ∧ x = (R.T.H j).length) := by
              rintro ⟨q1, q2⟩
              rw [q1, if_pos rfl] at hplen
              exact ht (.inr (.inl ⟨by omega, by omega⟩))
            have hnw : x ∉ out.eff.writes := fun q => ht (.inl (by rw [hwrj]; exact q))
            rw [Eff.upd_other hnw hnp]
            rcases hdom2 x L hL with q | ⟨q1, _, q2⟩
            · obtain ⟨p1, p2⟩ := hg x j0 b L hj0 (N.cut_same hsl hcut ht) hb q
              exact ⟨p1, by rw [hoth x b L hnw p1 q]; exact p2.mono (Ren.below_mono hle (Nat.le_refl _))⟩
            · exact absurd ⟨q2, q1⟩ hnp
        · intro x L hL
          rcases hdom2 x L hL with q | ⟨rfl, q1, q2⟩
          · exact .inl q
          · rw [q2, if_pos rfl] at hplen
            exact .inr ⟨Nat.le_refl _, by omega, q1⟩
        · intro x hx
          rw [hwrj] at hx
          obtain ⟨L, hL⟩ := hwr2 x hx
          exact ⟨L, hle x L hL⟩
end
end Go.Abs
