/- A region whose operations may come in more than one order. -/
import Derived.Test.YtjalhpdmdiimoaaDoorAbsCollect
set_option linter.unusedSimpArgs false
set_option linter.unusedVariables false
namespace Go.Abs

def EOper.kind (e : EOper) : Cls := if e.op.cls = .C ∧ e.frz = true then .F else e.op.cls

/-- A pair of operations, the first one ahead in the text: ordered, or apart and of kinds that may change places. -/
def pairOk (ops : Array Oper) (es : List EOper) (b : Array Nat) (i j : Nat) : Bool :=
  (b.getD j 0).testBit i || (match ops[i]?, ops[j]?, es[i]?, es[j]? with
    | some oi, some oj, some ei, some ej => Oper.apart ops oi oj && (match Cls.pair ei.kind ej.kind with
      | some false => true
      | some true => ei.log && ej.conf.contains i
      | none => false)
    | _, _, _, _ => false)

def edgesOk (ops : Array Oper) : Bool :=
  (List.range ops.size).all fun j => match ops[j]? with
    | some o => o.after.toList.all fun e => !Region.binds .any e || decide (e.on < j)
    | none => false

def drawOk (ops : Array Oper) (es : List EOper) : Bool :=
  let b := Region.before ops
  edgesOk ops && (List.range ops.size).all fun j => (List.range j).all fun i => pairOk ops es b i j

/-- The notes of an operation: with which earlier ones its blocks are compared, whether its own are noted, whether it may write. -/
def decorate (ops : Array Oper) (es : List EOper) : List EOper :=
  let b := Region.before ops
  let n := es.length
  let un (i j : Nat) : Bool := !((b.getD j 0).testBit i)
  let frz := es.zipIdx.map fun (e, j) => { e with frz := decide (e.op.cls = Cls.C) && ((List.range n).any fun i => i != j && (if i < j then un i j else un j i) && (match es[i]? with | some x => decide (x.op.cls ≠ Cls.P) | none => false)) }
  let confs := frz.zipIdx.map fun (e, j) => (List.range j).filter fun i => un i j && (match frz[i]? with | some x => decide (Cls.pair x.kind e.kind = some true) | none => false)
  frz.zipIdx.map fun (e, j) => { e with conf := confs.getD j [], log := confs.any fun c => c.contains j }

section before
variable {ops : Array Oper}

def stepBefore (acc : Array Nat) (o : Oper) : Array Nat :=
  acc.push (o.after.foldl (fun s e => if Region.binds .any e then s ||| 2 ^ e.on ||| acc.getD e.on 0 else s) 0)

theorem fold_bits (acc : Array Nat) : ∀ (l : List Edge) (s i : Nat), (l.foldl (fun s e => if Region.binds .any e then s ||| 2 ^ e.on ||| acc.getD e.on 0 else s) s).testBit i = true →
    s.testBit i = true ∨ ∃ e ∈ l, Region.binds .any e = true ∧ (i = e.on ∨ (acc.getD e.on 0).testBit i = true)
  | [], s, i, h => .inl h
  | e :: l, s, i, h => by
    rw [List.foldl_cons] at h
    rcases fold_bits acc l _ i h with q | ⟨e', he', q⟩
    · by_cases hb : Region.binds .any e = true
      · rw [if_pos hb] at q
        simp only [Nat.testBit_or, Bool.or_eq_true, Nat.testBit_two_pow, decide_eq_true_eq] at q
        rcases q with (q | q) | q
        · exact .inl q
        · exact .inr ⟨e, by simp, hb, .inl q.symm⟩
        · exact .inr ⟨e, by simp, hb, .inr q⟩
      · rw [if_neg hb] at q; exact .inl q
    · exact .inr ⟨e', by simp [he'], q⟩

def BeforeOk (ops : Array Oper) (acc : Array Nat) : Prop :=
  ∀ j, j < acc.size → ∀ i, (acc.getD j 0).testBit i = true → ∃ o, ops[j]? = some o ∧ ∃ e ∈ o.after, Region.binds .any e = true ∧ (i = e.on ∨ (e.on < j ∧ (acc.getD e.on 0).testBit i = true))

theorem beforeOk_step {acc : Array Nat} (h : BeforeOk ops acc) {o : Oper} (ho : ops[acc.size]? = some o) : BeforeOk ops (stepBefore acc o) := by
  intro j hj i hi
  unfold stepBefore at hj hi ⊢
  simp only [Array.size_push] at hj
  have old : ∀ m, m < acc.size → ∀ x, (acc.push x).getD m 0 = acc.getD m 0 := by
    intro m hm x
    simp [Array.getD_eq_getD_getElem?, Array.getElem?_push, Nat.ne_of_lt hm]
  by_cases hlt : j < acc.size
  · rw [old j hlt] at hi
    obtain ⟨o', h1, e, h2, h3, h4⟩ := h j hlt i hi
    refine ⟨o', h1, e, h2, h3, ?_⟩
    rcases h4 with q | ⟨q1, q2⟩
    · exact .inl q
    · exact .inr ⟨q1, by rw [old _ (by omega)]; exact q2⟩
  · have hje : j = acc.size := by omega
    subst hje
    rw [Array.getD_eq_getD_getElem?, Array.getElem?_push_size, Option.getD_some, ← Array.foldl_toList] at hi
    rcases fold_bits acc _ _ i hi with q | ⟨e, he, hb, q⟩
    · simp at q
    · refine ⟨o, ho, e, by simpa using he, hb, ?_⟩
      rcases q with q | q
      · exact .inl q
      · right
        have hlt2 : e.on < acc.size := by
          rcases Nat.lt_or_ge e.on acc.size with k | k
          · exact k
          · rw [Array.getD_eq_getD_getElem?, Array.getElem?_eq_none k] at q; simp at q
        exact ⟨hlt2, by rw [old _ hlt2]; exact q⟩

theorem beforeOk (ops : Array Oper) : BeforeOk ops (Region.before ops) ∧ (Region.before ops).size = ops.size := by
  have key : ∀ (l : List Oper) (acc : Array Nat), BeforeOk ops acc → (∀ j, l[j]? = if j < l.length then ops[acc.size + j]? else none) →
      BeforeOk ops (l.foldl stepBefore acc) ∧ (l.foldl stepBefore acc).size = acc.size + l.length := by
    intro l
    induction l with
    | nil => intro acc h _; exact ⟨h, rfl⟩
    | cons o l ih =>
      intro acc h hl
      have h0 := hl 0
      simp at h0
      have hs : (stepBefore acc o).size = acc.size + 1 := by simp [stepBefore]
      have := ih (stepBefore acc o) (beforeOk_step h h0.symm) (fun j => by
        have := hl (j + 1)
        simp only [List.getElem?_cons_succ, List.length_cons, Nat.add_lt_add_iff_right] at this
        rw [this, hs, show acc.size + 1 + j = acc.size + (j + 1) by omega])
      refine ⟨this.1, ?_⟩
      rw [List.foldl_cons, this.2, hs]; simp; omega
  have e : Region.before ops = ops.toList.foldl stepBefore #[] := by
    unfold Region.before; rw [← Array.foldl_toList]; rfl
  rw [e]
  have := key ops.toList #[] (fun j hj => by simp at hj) (fun j => by
    simp only [Array.getElem?_toList, Array.length_toList, List.size_toArray, List.length_nil, Nat.zero_add]
    split
    · rfl
    · rename_i hj; rw [Array.getElem?_eq_none (by omega)])
  refine ⟨this.1, by rw [this.2]; simp⟩

/-- What is executed is closed. -/
def ClosedL (ops : Array Oper) (l : Array Bool) : Prop :=
  ∀ i o, l.getD i false = true → ops[i]? = some o → ∀ e ∈ o.after, Region.binds .any e = true → l.getD e.on false = true

theorem before_listed {l : Array Bool} (hc : ClosedL ops l) : ∀ (j : Nat), j < ops.size → (∀ o, ops[j]? = some o → ∀ e ∈ o.after, Region.binds .any e = true → l.getD e.on false = true) →
    ∀ i, ((Region.before ops).getD j 0).testBit i = true → l.getD i false = true := by
  intro j
  induction j using Nat.strongRecOn with
  | _ j ih =>
    intro hj he i hi
    obtain ⟨hb, hs⟩ := beforeOk ops
    obtain ⟨o, h1, e, h2, h3, h4⟩ := hb j (by omega) i hi
    have hl := he o h1 e h2 h3
    rcases h4 with q | ⟨q1, q2⟩
    · rw [q]; exact hl
    · exact ih e.on q1 (by omega) (fun o' ho' => hc e.on o' hl ho') i q2
end before

/-- A run of operations, laid out. -/
structure Trace (C : Ctx) (es : List EOper) (st st' : St) where
  F : Nat → AFrame
  H : Nat → Heap
  V : Nat → Value
  RD : Nat → List Nat
  WR : Nat → List Nat
  Wn : Nat → Bool
  L : Nat → Log
  F0 : F 0 = st.f
  H0 : H 0 = st.h
  Fn : F es.length = st'.f
  Hn : H es.length = st'.h
  wanted : ∀ j e, es[j]? = some e → EOper.wanted (F j) e.guard = some (Wn j)
  exec : ∀ j e, es[j]? = some e → Wn j = true → e.op.exec C e.frz (F j) (H j) = some (V j, H (j + 1), RD j, WR j)
  skip : ∀ j e, es[j]? = some e → Wn j = false → V j = undef ∧ H (j + 1) = H j ∧ RD j = [] ∧ WR j = []
  next : ∀ j e, es[j]? = some e → F (j + 1) = (F j).put e.dst (V j)
  clash : ∀ j e, es[j]? = some e → Wn j = true → (L j).clash e.conf (RD j) (WR j) = false
  log : ∀ j e, es[j]? = some e → ∀ x ∈ L j, x ∈ L (j + 1)

theorem trace_of {C : Ctx} : ∀ (es : List EOper) (k : Nat) (l : Log) (st st' : St), runOps C es k l st = some st' →
    ∃ T : Trace C es st st', T.L 0 = l ∧ ∀ j e, es[j]? = some e → T.Wn j = true → e.log = true → (k + j, T.RD j, T.WR j) ∈ T.L (j + 1)
  | [], k, l, st, st', h => by
    simp [runOps] at h; subst h
    exact ⟨⟨fun _ => st.f, fun _ => st.h, fun _ => undef, fun _ => [], fun _ => [], fun _ => false, fun _ => l, rfl, rfl, rfl, rfl, by simp, by simp, by simp, by simp, by simp, by simp⟩, rfl, by simp⟩
  | e :: es, k, l, st, st', h => by
    unfold runOps at h
    split at h
    · rename_i hw
      split at h
      · rename_i v hh rd wr hx
        split at h
        · cases h
        · rename_i hcl
          obtain ⟨T, hL, hlog⟩ := trace_of es (k + 1) _ _ _ h
          refine ⟨⟨fun j => if j = 0 then st.f else T.F (j - 1), fun j => if j = 0 then st.h else T.H (j - 1), fun j => if j = 0 then v else T.V (j - 1), fun j => if j = 0 then rd else T.RD (j - 1),
            fun j => if j = 0 then wr else T.WR (j - 1), fun j => if j = 0 then true else T.Wn (j - 1), fun j => if j = 0 then l else T.L (j - 1), rfl, rfl, by simp [T.Fn], by simp [T.Hn], ?_, ?_, ?_, ?_, ?_, ?_⟩, rfl, ?_⟩
          · intro j e' he
            cases j with
            | zero => simp at he; subst he; simpa using hw
            | succ j => simpa using T.wanted j e' (by simpa using he)
          · intro j e' he hn
            cases j with
            | zero => simp at he; subst he; simpa [T.H0] using hx
            | succ j => simpa using T.exec j e' (by simpa using he) (by simpa using hn)
          · intro j e' he hn
            cases j with
            | zero => simp at hn
            | succ j => simpa using T.skip j e' (by simpa using he) (by simpa using hn)
          · intro j e' he
            cases j with
            | zero => simp at he; subst he; simp [T.F0]
            | succ j => simpa using T.next j e' (by simpa using he)
          · intro j e' he hn
            cases j with
            | zero => simp at he; subst he; simpa using hcl
            | succ j => simpa using T.clash j e' (by simpa using he) (by simpa using hn)
          · intro j e' he x hx'
            cases j with
            | zero =>
              simp at he; subst he
              simp only [if_true] at hx'
              simp only [Nat.zero_add, Nat.one_ne_zero, if_false, Nat.sub_self, hL]
              split
              · exact List.mem_cons_of_mem _ hx'
              · exact hx'
            | succ j => simpa using T.log j e' (by simpa using he) x (by simpa using hx')
          · intro j e' he hn hl
            cases j with
            | zero => simp at he; subst he; simp [hL, hl]
            | succ j =>
              have := hlog j e' (by simpa using he) (by simpa using hn) hl
              simpa [Nat.add_assoc, Nat.add_comm 1 j] using this
      · cases h
    · rename_i hw
      obtain ⟨T, hL, hlog⟩ := trace_of es (k + 1) _ _ _ h
      refine ⟨⟨fun j => if j = 0 then st.f else T.F (j - 1), fun j => if j = 0 then st.h else T.H (j - 1), fun j => if j = 0 then undef else T.V (j - 1), fun j => if j = 0 then [] else T.RD (j - 1),
        fun j => if j = 0 then [] else T.WR (j - 1), fun j => if j = 0 then false else T.Wn (j - 1), fun j => if j = 0 then l else T.L (j - 1), rfl, rfl, by simp [T.Fn], by simp [T.Hn], ?_, ?_, ?_, ?_, ?_, ?_⟩, rfl, ?_⟩
      · intro j e' he
        cases j with
        | zero => simp at he; subst he; simpa using hw
        | succ j => simpa using T.wanted j e' (by simpa using he)
      · intro j e' he hn
        cases j with
        | zero => simp at hn
        | succ j => simpa using T.exec j e' (by simpa using he) (by simpa using hn)
      · intro j e' he hn
        cases j with
        | zero => simp [T.H0]
        | succ j => simpa using T.skip j e' (by simpa using he) (by simpa using hn)
      · intro j e' he
        cases j with
        | zero => simp at he; subst he; simp [T.F0]
        | succ j => simpa using T.next j e' (by simpa using he)
      · intro j e' he hn
        cases j with
        | zero => simp at hn
        | succ j => simpa using T.clash j e' (by simpa using he) (by simpa using hn)
      · intro j e' he x hx'
        cases j with
        | zero => simpa [hL] using hx'
        | succ j => simpa using T.log j e' (by simpa using he) x (by simpa using hx')
      · intro j e' he hn hl
        cases j with
        | zero => simp at hn
        | succ j =>
          have := hlog j e' (by simpa using he) (by simpa using hn) hl
          simpa [Nat.add_assoc, Nat.add_comm 1 j] using this
    · cases h
end Go.Abs
