/- More rules: loops' heads. -/
import Derived.Test.YtjalhpdmdiimoaaDoorAbsWp
set_option linter.unusedSimpArgs false
set_option linter.unusedVariables false
namespace Go.Abs

/-- A value whose addresses lie below n. -/
def lowV (n : Nat) : Nat → Value → Bool
  | d, v => plainV v || match d, v with
    | _, .pointer (some ⟨b, _, none⟩) | _, .slice (some ⟨b, _, none⟩) _ _ | _, .map (some b) => decide (b < n)
    | d + 1, .agg cs | d + 1, .tuple cs => cs.toList.all (lowV n d)
    | _, _ => false

theorem low_mapM {n d : Nat} (ih : ∀ v, lowV n d v = true → ∃ l, addrs d v = some l ∧ ∀ b ∈ l, b < n) : ∀ (l : List Value), l.all (lowV n d) = true → ∃ m, l.mapM (addrs d) = some m ∧ ∀ b ∈ m.flatten, b < n
  | [], _ => ⟨[], rfl, by simp⟩
  | x :: r, h => by
    simp only [List.all_cons, Bool.and_eq_true] at h
    obtain ⟨a, e1, h1⟩ := ih x h.1
    obtain ⟨m, e2, h2⟩ := low_mapM ih r h.2
    refine ⟨a :: m, by rw [List.mapM_cons, e1, e2]; rfl, fun b hb => ?_⟩
    simp only [List.flatten_cons, List.mem_append] at hb
    rcases hb with q | q
    · exact h1 b q
    · exact h2 b q

theorem low_addrs {n : Nat} : ∀ (d : Nat) (v : Value), lowV n d v = true → ∃ l, addrs d v = some l ∧ ∀ b ∈ l, b < n
  | d, v, h => by
    unfold lowV at h
    unfold addrs
    by_cases hp : plainV v = true
    · exact ⟨[], by simp [hp], by simp⟩
    · have hp' : plainV v = false := by simpa using hp
      simp only [hp', Bool.false_or, Bool.false_eq_true, if_false] at h ⊢
      have key : ∀ (d : Nat) (l : List Value), l.all (lowV n d) = true → (∀ v, lowV n d v = true → ∃ l, addrs d v = some l ∧ ∀ b ∈ l, b < n) → ∃ m, (l.mapM (addrs d)).map List.flatten = some m ∧ ∀ b ∈ m, b < n := by
        intro d l hl ih
        obtain ⟨m, e, hm⟩ := low_mapM ih l hl
        exact ⟨m.flatten, by rw [e]; rfl, hm⟩
      match v with
      | .pointer (some ⟨b, o, none⟩) =>
        cases d <;> exact ⟨[b], rfl, by simpa using h⟩
      | .slice (some ⟨b, o, none⟩) k s =>
        cases d <;> exact ⟨[b], rfl, by simpa using h⟩
      | .map (some b) =>
        cases d <;> exact ⟨[b], rfl, by simpa using h⟩
      | .agg cs =>
        cases d with
        | zero => simp at h
        | succ d => exact key d _ h (low_addrs d)
      | .tuple cs =>
        cases d with
        | zero => simp at h
        | succ d => exact key d _ h (low_addrs d)
      | .bool _ | .int _ _ | .float _ _ | .complex _ _ _ | .string _ | .nilFunc | .nilIface => simp [plainV] at hp
      | .pointer none | .map none | .chan none => simp [plainV] at hp
      | .pointer (some ⟨b, o, some _⟩) => cases d <;> simp at h
      | .slice (some ⟨b, o, some _⟩) k s => cases d <;> simp at h
      | .slice none k s => cases d <;> simp at h
      | .chan (some _) => cases d <;> simp at h
      | .func _ _ _ => cases d <;> simp at h
      | .iface _ _ => cases d <;> simp at h

theorem low_ren {n : Nat} : ∀ (d : Nat) (v : Value), lowV n d v = true → renV (renOf n []) d v = v
  | d, v, h => by
    unfold lowV at h
    unfold renV
    by_cases hp : plainV v = true
    · simp [hp]
    · have hp' : plainV v = false := by simpa using hp
      simp only [hp', Bool.false_or, Bool.false_eq_true, if_false] at h ⊢
      have key : ∀ (d : Nat) (cs : Array Value), cs.toList.all (lowV n d) = true → (∀ v, lowV n d v = true → renV (renOf n []) d v = v) → cs.map (renV (renOf n []) d) = cs := by
        intro d cs hl ih
        apply Array.ext
        · simp
        · intro i h1 h2
          simp only [Array.getElem_map]
          apply ih
          rw [List.all_eq_true] at hl
          exact hl _ (by simp)
      have hr : ∀ b, b < n → renOf n [] b = b := fun b hb => by simp [renOf, hb]
      match v with
      | .pointer (some ⟨b, o, none⟩) =>
        have hb : b < n := by cases d <;> simpa using h
        cases d <;> simp [hr b hb]
      | .slice (some ⟨b, o, none⟩) k s =>
        have hb : b < n := by cases d <;> simpa using h
        cases d <;> simp [hr b hb]
      | .map (some b) =>
        have hb : b < n := by cases d <;> simpa using h
        cases d <;> simp [hr b hb]
      | .agg cs =>
        cases d with
        | zero => simp at h
        | succ d => exact congrArg Value.agg (key d _ h (low_ren d))
      | .tuple cs =>
        cases d with
        | zero => simp at h
        | succ d => exact congrArg Value.tuple (key d _ h (low_ren d))
      | .bool _ | .int _ _ | .float _ _ | .complex _ _ _ | .string _ | .nilFunc | .nilIface => simp [plainV] at hp
      | .pointer none | .map none | .chan none => simp [plainV] at hp
      | .pointer (some ⟨b, o, some _⟩) => cases d <;> simp at h
      | .slice (some ⟨b, o, some _⟩) k s => cases d <;> simp at h
      | .slice none k s => cases d <;> simp at h
      | .chan (some _) => cases d <;> simp at h
      | .func _ _ _ => cases d <;> simp at h
      | .iface _ _ => cases d <;> simp at h

theorem reach_low {n : Nat} {h : Heap} : ∀ (k : Nat) (todo : List Nat), todo.length < k → (∀ b ∈ todo, b < n) → reach n h k todo [] = some []
  | k, [], _, _ => by cases k <;> rfl
  | 0, _ :: _, hl, _ => by simp at hl
  | k + 1, b :: r, hl, hb => by
    unfold reach
    rw [if_pos (Or.inl (hb b (by simp)))]
    exact reach_low k r (by simpa using hl) (fun x hx => hb x (by simp [hx]))

theorem reach_nil {n : Nat} {h : Heap} (k : Nat) (acc : List Nat) : reach n h k [] acc = some acc := by cases k <;> rfl

/-- How many addresses at most. -/
def fewV : Nat → Value → Nat
  | d, v => if plainV v then 0 else match d, v with
    | d + 1, .agg cs | d + 1, .tuple cs => (cs.toList.map (fewV d)).sum
    | _, _ => 1

theorem few_addrs {n : Nat} : ∀ (d : Nat) (v : Value) (l : List Nat), lowV n d v = true → addrs d v = some l → l.length ≤ fewV d v
  | d, v, l, hlow, h => by
    unfold lowV at hlow
    unfold addrs at h
    unfold fewV
    by_cases hp : plainV v = true
    · simp [hp] at h; subst h; simp [hp]
    · have hp' : plainV v = false := by simpa using hp
      simp only [hp', Bool.false_or, Bool.false_eq_true, if_false] at h hlow ⊢
      have key : ∀ (d : Nat) (vs : List Value) (l : List Nat), vs.all (lowV n d) = true → (∀ v l, lowV n d v = true → addrs d v = some l → l.length ≤ fewV d v) → (vs.mapM (addrs d)).map List.flatten = some l → l.length ≤ (vs.map (fewV d)).sum := by
        intro d vs l hl ih he
        rcases e : vs.mapM (addrs d) with _ | m
        · rw [e] at he; cases he
        rw [e] at he
        simp only [Option.map_some, Option.some.injEq] at he
        subst he
        clear h hlow
        induction vs generalizing m with
        | nil => simp at e; subst e; simp
        | cons x r ihr =>
          simp only [List.all_cons, Bool.and_eq_true] at hl
          rw [List.mapM_cons] at e
          rcases e1 : addrs d x with _ | a
          · rw [e1] at e; cases e
          rcases e2 : r.mapM (addrs d) with _ | b
          · rw [e1, e2] at e; cases e
          rw [e1, e2] at e
          have e' : some (a :: b) = some m := e
          cases e'
          have q1 := ihr hl.2 b e2
          have q2 := ih x a hl.1 e1
          simp only [List.flatten_cons, List.length_append, List.map_cons, List.sum_cons]
          omega
      match v with
      | .pointer (some ⟨b, o, none⟩) | .slice (some ⟨b, o, none⟩) k s | .map (some b) =>
        cases d <;> (simp at h; subst h; simp)
      | .agg cs =>
        cases d with
        | zero => simp at hlow
        | succ d => exact key d _ _ hlow (few_addrs d) h
      | .tuple cs =>
        cases d with
        | zero => simp at hlow
        | succ d => exact key d _ _ hlow (few_addrs d) h
      | .bool _ | .int _ _ | .float _ _ | .complex _ _ _ | .string _ | .nilFunc | .nilIface => simp [plainV] at hp
      | .pointer none | .map none | .chan none => simp [plainV] at hp
      | .pointer (some ⟨b, o, some _⟩) => cases d <;> simp at hlow
      | .slice (some ⟨b, o, some _⟩) k s => cases d <;> simp at hlow
      | .slice none k s => cases d <;> simp at hlow
      | .chan (some _) => cases d <;> simp at hlow
      | .func _ _ _ => cases d <;> simp at hlow
      | .iface _ _ => cases d <;> simp at hlow

/-- At a loop's head where all that is kept lies below the function's own blocks: the kept values, no block of its own. -/
theorem collect_low {n : Nat} {vs : List Value} {h : Heap} (hv : vs.all (lowV n valDepth) = true) (hl : decide ((vs.map (fewV valDepth)).sum ≤ 999) = true) : collect n vs h = some (vs, []) := by
  obtain ⟨m, e, hm⟩ := low_mapM (low_addrs valDepth) vs hv
  unfold collect
  rw [e]
  simp only
  have hlen : m.flatten.length < reachFuel := by
    have key : ∀ (vs : List Value) (m : List (List Nat)), vs.all (lowV n valDepth) = true → vs.mapM (addrs valDepth) = some m → m.flatten.length ≤ (vs.map (fewV valDepth)).sum := by
      intro vs
      induction vs with
      | nil => intro m _ e; simp at e; subst e; simp
      | cons x r ihr =>
        intro m hl e
        simp only [List.all_cons, Bool.and_eq_true] at hl
        rw [List.mapM_cons] at e
        rcases e1 : addrs valDepth x with _ | a
        · rw [e1] at e; cases e
        rcases e2 : r.mapM (addrs valDepth) with _ | b
        · rw [e1, e2] at e; cases e
        rw [e1, e2] at e
        have e' : some (a :: b) = some m := e
        cases e'
        have q1 := ihr b hl.2 e2
        have q2 := few_addrs valDepth x a hl.1 e1
        simp only [List.flatten_cons, List.length_append, List.map_cons, List.sum_cons]
        omega
    have hl' := of_decide_eq_true hl
    have := key vs m hv e
    show m.flatten.length < 1000
    omega
  rw [reach_low _ _ hlen hm]
  simp only [List.map_nil, Option.some.injEq, Prod.mk.injEq, and_true]
  have : ∀ x ∈ vs, renV (renOf n []) valDepth x = x := fun x hx => low_ren _ _ (List.all_eq_true.1 hv x hx)
  rw [List.map_congr_left (g := id) (by simpa using this)]
  simp

theorem take_freeze {h : Heap} {n : Nat} (hn : n = h.length) : List.take n h.freeze = h.freeze := by subst hn; exact List.take_of_length_le (by simp)
theorem take_freeze_append {h : Heap} {l : List (Option Blk)} {n : Nat} (hn : n = h.length) : List.take n (h.freeze ++ l) = h.freeze := by
  subst hn; rw [List.take_append_of_le_length (by simp)]; exact take_freeze rfl
theorem lowV_plain {n d : Nat} {v : Value} (h : plainV v = true) : lowV n d v = true := by unfold lowV; simp [h]
theorem fewV_plain {d : Nat} {v : Value} (h : plainV v = true) : fewV d v = 0 := by unfold fewV; simp [h]
@[simp] theorem lowV_int (n d : Nat) (k : IntKind) (m : Int) : lowV n d (.int k m) = true := lowV_plain rfl
@[simp] theorem lowV_bool (n d : Nat) (b : Bool) : lowV n d (.bool b) = true := lowV_plain rfl
@[simp] theorem lowV_string (n d : Nat) (b : ByteArray) : lowV n d (.string b) = true := lowV_plain rfl
@[simp] theorem lowV_nil (n d : Nat) : lowV n d (.slice none 0 0) = true := lowV_plain rfl
@[simp] theorem lowV_slice (n d b o m s : Nat) : lowV n d (.slice (some ⟨b, o, none⟩) m s) = decide (b < n) := by unfold lowV; cases d <;> simp [plainV]
@[simp] theorem lowV_ptr (n d b o : Nat) : lowV n d (.pointer (some ⟨b, o, none⟩)) = decide (b < n) := by unfold lowV; cases d <;> simp [plainV]
@[simp] theorem lowV_agg (n d : Nat) (cs : Array Value) : lowV n (d + 1) (.agg cs) = cs.toList.all (lowV n d) := by rw [lowV]; simp [plainV]
@[simp] theorem fewV_int (d : Nat) (k : IntKind) (m : Int) : fewV d (.int k m) = 0 := fewV_plain rfl
@[simp] theorem fewV_bool (d : Nat) (b : Bool) : fewV d (.bool b) = 0 := fewV_plain rfl
@[simp] theorem fewV_string (d : Nat) (b : ByteArray) : fewV d (.string b) = 0 := fewV_plain rfl
@[simp] theorem fewV_nil (d : Nat) : fewV d (.slice none 0 0) = 0 := fewV_plain rfl
@[simp] theorem fewV_slice (d b o m s : Nat) : fewV d (.slice (some ⟨b, o, none⟩) m s) = 1 := by unfold fewV; cases d <;> simp [plainV]
@[simp] theorem fewV_ptr (d b o : Nat) : fewV d (.pointer (some ⟨b, o, none⟩)) = 1 := by unfold fewV; cases d <;> simp [plainV]
@[simp] theorem fewV_agg (d : Nat) (cs : Array Value) : fewV (d + 1) (.agg cs) = (cs.toList.map (fewV d)).sum := by rw [fewV]; simp [plainV]
attribute [simp] collect_low reachFuel take_freeze take_freeze_append AFrame.only
end Go.Abs
