/- A region whose operations may come in more than one order: the invariant of what has been executed. -/
import Derived.Test.YtjalhpdmdiimoaaDoorAbsDraw2
set_option linter.unusedSimpArgs false
set_option linter.unusedVariables false
namespace Go.Abs

/-- What is fixed while a region runs. -/
structure Reg (P : Program) (X : Fix) (C : Ctx) (ops : Array Oper) (es : List EOper) (st st' : St) where
  A : Around P X C
  T : Trace C es st st'
  len : es.length = ops.size
  ok : ∀ (j : Nat) o e, ops[j]? = some o → es[j]? = some e → OperOk P C.glob X.n o e ∧ compileGuard ops o.guard = some e.guard
  draw : drawOk ops es = true
  logged : ∀ (j : Nat) e, es[j]? = some e → T.Wn j = true → e.log = true → (j, T.RD j, T.WR j) ∈ T.L (j + 1)
  base : X.h0.length ≤ st.h.length

section
variable {P : Program} {X : Fix} {C : Ctx} {ops : Array Oper} {es : List EOper} {st st' : St}

theorem Reg.op (R : Reg P X C ops es st st') {j : Nat} (hj : j < ops.size) : ∃ o e, ops[j]? = some o ∧ es[j]? = some e ∧ OperOk P C.glob X.n o e ∧ compileGuard ops o.guard = some e.guard := by
  refine ⟨ops[j], es[j]'(by rw [R.len]; exact hj), by simp, by simp, R.ok j _ _ (by simp) (by simp)⟩

theorem Reg.base_le (R : Reg P X C ops es st st') : ∀ j, j ≤ ops.size → X.h0.length ≤ (R.T.H j).length ∧ (∀ i, i ≤ j → (R.T.H i).length ≤ (R.T.H j).length) := by
  intro j
  induction j with
  | zero => intro _; exact ⟨by rw [R.T.H0]; exact R.base, fun i hi => by rw [Nat.le_zero.1 hi]; exact Nat.le_refl _⟩
  | succ j ih =>
    intro hj
    obtain ⟨h1, h2⟩ := ih (by omega)
    obtain ⟨o, e, ho, he, _, _⟩ := R.op (show j < ops.size by omega)
    have hm : (R.T.H j).length ≤ (R.T.H (j + 1)).length := by
      cases hw : R.T.Wn j with
      | true => exact (exec_facts R.A (R.T.exec j e he hw) h1).mono
      | false => rw [(R.T.skip j e he hw).2.1]; exact Nat.le_refl _
    refine ⟨by omega, fun i hi => ?_⟩
    rcases Nat.lt_or_ge i (j + 1) with q | q
    · have := h2 i (by omega); omega
    · rw [show i = j + 1 by omega]; exact Nat.le_refl _

theorem Reg.facts (R : Reg P X C ops es st st') {j : Nat} {e : EOper} (hj : j < ops.size) (he : es[j]? = some e) (hw : R.T.Wn j = true) :
    ExecFacts C (R.T.F j) e (R.T.H j) (R.T.H (j + 1)) (R.T.V j) (R.T.RD j) (R.T.WR j) :=
  exec_facts R.A (R.T.exec j e he hw) (R.base_le j (by omega)).1

/-- Operation i writes or makes block x. -/
def Reg.touch (R : Reg P X C ops es st st') (x i : Nat) : Prop :=
  x ∈ R.T.WR i ∨ ((R.T.H i).length ≤ x ∧ x < (R.T.H (i + 1)).length) ∨ (R.T.Wn i = true ∧ ∃ e, es[i]? = some e ∧ e.kind = .C)

def isL (l : Array Bool) (i : Nat) : Prop := l.getD i false = true

def Reg.cut (R : Reg P X C ops es st st') (l : Array Bool) (x j0 : Nat) : Prop := ∀ i, i < ops.size → R.touch x i → (isL l i ↔ i < j0)

def cutT (ops : Array Oper) (l : Array Bool) (t j0 : Nat) : Prop := ∀ (i : Nat) o, ops[i]? = some o → o.dst = some t → (isL l i ↔ i < j0)

structure DInv (R : Reg P X C ops es st st') (l : Array Bool) (a : Act) (w : World) : Prop where
  ex : ∃ ρ g, (∀ j0 t u, j0 ≤ ops.size → (R.T.F j0).get t = some u → cutT ops l t j0 → ∃ v', a.tmps[t]? = some v' ∧ VRel ρ u v') ∧
    Sim X.Own ρ g w ∧ (∀ x j0 b L, j0 ≤ ops.size → R.cut l x j0 → (R.T.H j0).get x = some b → ρ x = some L → g x = some b) ∧
    (∀ x L, ρ x = some L → x < (R.T.H 0).length ∨ ∃ j, j < ops.size ∧ isL l j ∧ (R.T.H j).length ≤ x ∧ x < (R.T.H (j + 1)).length) ∧
    (∀ i, i < X.h0.length → ρ i = X.ρ0 i) ∧ (∀ i L, ρ i = some L → X.h0.length ≤ i → X.Own L.blk) ∧
    (∀ i x, i < ops.size → isL l i → x ∈ R.T.WR i → ∃ L, ρ x = some L)
  closed : ClosedL ops l
  sizeL : l.size = ops.size
  frame : Frame X.Own X.w0 w
  defers : a.defers = []
  size : a.tmps.size = X.n

theorem pairOk_use {b : Array Nat} {i j : Nat} {oi oj : Oper} {ei ej : EOper} (h : pairOk ops es b i j = true) (hi : ops[i]? = some oi) (hj : ops[j]? = some oj) (hei : es[i]? = some ei) (hej : es[j]? = some ej) :
    (b.getD j 0).testBit i = true ∨ (Oper.apart ops oi oj = true ∧ (Cls.pair ei.kind ej.kind = some false ∨ (Cls.pair ei.kind ej.kind = some true ∧ ei.log = true ∧ i ∈ ej.conf))) := by
  unfold pairOk at h
  rw [hi, hj, hei, hej] at h
  simp only [Bool.or_eq_true, Bool.and_eq_true] at h
  rcases h with h | ⟨h1, h2⟩
  · exact .inl h
  · right
    refine ⟨h1, ?_⟩
    split at h2
    · rename_i q; exact .inl q
    · rename_i q
      simp only [Bool.and_eq_true, List.contains_iff_mem] at h2
      exact .inr ⟨q, h2.1, h2.2⟩
    · cases h2

theorem Reg.pair (R : Reg P X C ops es st st') {i j : Nat} (hij : i < j) (hj : j < ops.size) {oi oj : Oper} {ei ej : EOper} (h1 : ops[i]? = some oi) (h2 : ops[j]? = some oj) (h3 : es[i]? = some ei) (h4 : es[j]? = some ej) :
    ((Region.before ops).getD j 0).testBit i = true ∨ (Oper.apart ops oi oj = true ∧ (Cls.pair ei.kind ej.kind = some false ∨ (Cls.pair ei.kind ej.kind = some true ∧ ei.log = true ∧ i ∈ ej.conf))) := by
  have h := R.draw
  unfold drawOk at h
  simp only [Bool.and_eq_true] at h
  have := List.all_eq_true.1 h.2 j (by simpa using hj)
  exact pairOk_use (List.all_eq_true.1 this i (by simpa using hij)) h1 h2 h3 h4

/-- The log grows. -/
theorem Reg.logged_later (R : Reg P X C ops es st st') {i : Nat} {e : EOper} (he : es[i]? = some e) (hw : R.T.Wn i = true) (hl : e.log = true) : ∀ j, i < j → j ≤ ops.size → (i, R.T.RD i, R.T.WR i) ∈ R.T.L j := by
  intro j
  induction j with
  | zero => intro h; omega
  | succ j ih =>
    intro hij hj
    rcases Nat.lt_or_ge i j with q | q
    · obtain ⟨o, e', _, he', _, _⟩ := R.op (show j < ops.size by omega)
      exact R.T.log j e' he' _ (ih q (by omega))
    · rw [show j = i by omega]; exact R.logged i e he hw hl

theorem clash_false {l : Log} {conf rd wr : List Nat} (h : l.clash conf rd wr = false) {i : Nat} {rd' wr' : List Nat} (hi : i ∈ conf) (hm : (i, rd', wr') ∈ l) :
    (∀ x ∈ wr, x ∉ rd' ∧ x ∉ wr') ∧ (∀ x ∈ wr', x ∉ rd) := by
  unfold Log.clash at h
  rw [List.any_eq_false] at h
  have h1 := h i hi
  simp only [Bool.not_eq_true, List.any_eq_false] at h1
  have h2 := h1 _ hm
  simp only [beq_self_eq_true, Bool.true_and, Bool.or_eq_false_iff] at h2
  have h3 : ¬ ((wr.any fun x => rd'.contains x || wr'.contains x) = true) ∧ ¬ ((wr'.any fun x => rd.contains x) = true) := ⟨by rw [h2.1]; simp, by rw [h2.2]; simp⟩
  clear h2
  simp only [List.any_eq_true, Bool.or_eq_true, List.contains_iff_mem, not_exists, not_and, not_or] at h3
  have h2 := h3
  exact ⟨fun x hx => ⟨fun q => (h2.1 x hx).1 q, fun q => (h2.1 x hx).2 q⟩, fun x hx q => h2.2 x hx q⟩

/-- Two operations whose blocks are compared touch other blocks. -/
theorem Reg.apart (R : Reg P X C ops es st st') {i j : Nat} (hij : i < j) (hj : j < ops.size) {ei ej : EOper} (h3 : es[i]? = some ei) (h4 : es[j]? = some ej) (hlog : ei.log = true) (hconf : i ∈ ej.conf) :
    (∀ x ∈ R.T.WR j, x ∉ R.T.RD i ∧ x ∉ R.T.WR i) ∧ (∀ x ∈ R.T.WR i, x ∉ R.T.RD j) := by
  cases hwj : R.T.Wn j with
  | false => rw [(R.T.skip j ej h4 hwj).2.2.1, (R.T.skip j ej h4 hwj).2.2.2]; exact ⟨fun x hx => by simp at hx, fun x _ => by simp⟩
  | true =>
    cases hwi : R.T.Wn i with
    | false => rw [(R.T.skip i ei h3 hwi).2.2.1, (R.T.skip i ei h3 hwi).2.2.2]; exact ⟨fun x _ => by simp, fun x hx => by simp at hx⟩
    | true => exact clash_false (R.T.clash j ej h4 hwj) hconf (R.logged_later h3 hwi hlog j hij (by omega))

/-- The kind of an operation that touches a block. -/
theorem Reg.touch_kind (R : Reg P X C ops es st st') {x i : Nat} {e : EOper} (hi : i < ops.size) (he : es[i]? = some e) (ht : R.touch x i) :
    R.T.Wn i = true ∧ ((x ∈ R.T.WR i ∧ (e.kind = .W ∨ e.kind = .M)) ∨ ((R.T.H i).length ≤ x ∧ x < (R.T.H (i + 1)).length ∧ (e.kind = .A ∨ e.kind = .M ∨ e.kind = .F ∨ e.kind = .C)) ∨ e.kind = .C) := by
  have hw : R.T.Wn i = true := by
    cases hw : R.T.Wn i with
    | true => rfl
    | false =>
      obtain ⟨_, q1, _, q2⟩ := R.T.skip i e he hw
      rcases ht with t | t | ⟨t, _⟩
      · rw [q2] at t; simp at t
      · rw [q1] at t; omega
      · rw [hw] at t; exact t
  have F := R.facts hi he hw
  refine ⟨hw, ?_⟩
  rcases ht with t | t | ⟨_, e', he', t⟩
  · exact .inl ⟨t, F.wrk x t⟩
  · refine .inr (.inl ⟨t.1, t.2, ?_⟩)
    have hne : (R.T.H (i + 1)).length ≠ (R.T.H i).length := by omega
    cases hk : e.kind with
    | P => exact absurd (F.keep (.inl hk)) hne
    | R => exact absurd (F.keep (.inr (.inl hk))) hne
    | W => exact absurd (F.keep (.inr (.inr hk))) hne
    | A => exact .inl rfl
    | M => exact .inr (.inl rfl)
    | F => exact .inr (.inr (.inl rfl))
    | C => exact .inr (.inr (.inr rfl))
  · rw [he] at he'; cases he'; exact .inr (.inr t)

/-- Where nothing touches it, a block stays. -/
theorem Reg.untouched (R : Reg P X C ops es st st') {x : Nat} {j : Nat} (hj : j < ops.size) (hx : x < (R.T.H j).length) (ht : ¬ R.touch x j) : (R.T.H (j + 1)).get x = (R.T.H j).get x := by
  obtain ⟨o, e, _, he, _, _⟩ := R.op hj
  cases hw : R.T.Wn j with
  | false => rw [(R.T.skip j e he hw).2.1]
  | true =>
    have F := R.facts hj he hw
    exact F.other x hx (fun q => ht (.inl q)) (fun q => ht (.inr (.inr ⟨hw, e, he, q⟩)))

theorem Reg.untouched_range (R : Reg P X C ops es st st') {x : Nat} {i : Nat} : ∀ j, i ≤ j → j ≤ ops.size → x < (R.T.H i).length → (∀ k, i ≤ k → k < j → ¬ R.touch x k) → (R.T.H j).get x = (R.T.H i).get x := by
  intro j
  induction j with
  | zero => intro hi _ _ _; rw [Nat.le_zero.1 hi]
  | succ j ih =>
    intro hij hj hx ht
    rcases Nat.lt_or_ge i (j + 1) with q | q
    · rw [R.untouched (show j < ops.size by omega) (by have := (R.base_le j (by omega)).2 i (by omega); omega) (ht j (by omega) (by omega))]
      exact ih (by omega) (by omega) hx fun k h1 h2 => ht k h1 (by omega)
    · rw [show i = j + 1 by omega]

/-- A block is made once. -/
theorem Reg.born_once (R : Reg P X C ops es st st') {x i j : Nat} (hi : i < ops.size) (hj : j < ops.size) (h1 : (R.T.H i).length ≤ x) (h2 : x < (R.T.H (i + 1)).length) (h3 : (R.T.H j).length ≤ x) (h4 : x < (R.T.H (j + 1)).length) : i = j := by
  rcases Nat.lt_trichotomy i j with q | q | q
  · have := (R.base_le j (by omega)).2 (i + 1) (by omega); omega
  · exact q
  · have := (R.base_le i (by omega)).2 (j + 1) (by omega); omega

theorem unwritten_get {F : Nat → AFrame} {V : Nat → Value} {n t : Nat} (hn : ∀ (j : Nat) e, es[j]? = some e → F (j + 1) = (F j).put e.dst (V j)) (hl : es.length = n) {i : Nat} : ∀ j, i ≤ j → j ≤ n → (∀ (k : Nat) e, i ≤ k → k < j → es[k]? = some e → e.dst ≠ some t) → (F j).get t = (F i).get t := by
  intro j
  induction j with
  | zero => intro hi _ _; rw [Nat.le_zero.1 hi]
  | succ j ih =>
    intro hij hj ht
    rcases Nat.lt_or_ge i (j + 1) with q | q
    · have he : es[j]? = some (es[j]'(by omega)) := by simp
      rw [hn j _ he, put_get_ne (ht j _ (by omega) (by omega) he)]
      exact ih (by omega) (by omega) fun k e h1 h2 => ht k e h1 (by omega)
    · rw [show i = j + 1 by omega]
end
end Go.Abs
