/- From what the evaluator gives for a law to what the law's row asks. -/
import Derived.Test.YtllhkifkiabkbaaGreatDoorAbsSoundM
import Derived.ProofKit
import Derived.LaidMore
import Derived.Test.YtllhkifkiabkbaaGreatDoorAbsWpM
import Derived.OpenShut
set_option linter.unusedSimpArgs false
set_option linter.unusedVariables false
/- From what the evaluator gives for a law to what the law's row asks. -/
namespace Go.Abs
variable {K : LoopKind}
open Go.ChangeShapes Go.WideShapes Go.RowKit

theorem trodAll_stays {H : Type} {enc : TypeId × Value → H} {P : Program} (hl : laidOutB P = true) {W W' : World} {sp : Nat → Bool} (hb : Below W.heap.size W W') :
    ∀ (ts : List TypeId) (vs : List Value) (ds : List (DataW H)) (ps : List MemPlace), (∀ t ∈ ts, P.readableRec t = true ∧ t < P.types.size) → (∀ p ∈ ps, p.block < W.heap.size) → (∀ p ∈ ps, sp p.block = true) →
    DataW.TrodAll enc P W 0 (fun _ => true) true ts vs ds ps → DataW.TrodAll enc P W' 0 sp true ts vs ds ps
  | [], [], [], _, _, _, _, h => h
  | t :: ts, v :: vs, d :: ds, ps, hr, hlt, hs, h => by
    obtain ⟨p, q, h1, h2, rfl⟩ := h
    have a := hr t (by simp)
    exact ⟨p, q, WideElems.Trod_stays hl a.1 a.2 h1 (fun x hx => hb.same (hlt x (by simp [hx]))) (fun x hx => hs x (by simp [hx])),
      trodAll_stays hl hb ts vs ds q (fun u hu => hr u (by simp [hu])) (fun x hx => hlt x (by simp [hx])) (fun x hx => hs x (by simp [hx])) h2, rfl⟩
  | [], _ :: _, _, _, _, _, _, h => h.elim
  | [], [], _ :: _, _, _, _, _, h => h.elim
  | _ :: _, [], _, _, _, _, _, h => h.elim
  | _ :: _, _ :: _, [], _, _, _, _, h => h.elim

/-- What a law's row asks, where the law gave true and below the old heap nothing turned. -/
theorem post_true {H : Type} {enc : TypeId × Value → H} {P : Program} {fn : Func} {s : ChangeSpec} {apart fresh handsOn : Bool} {W W' : World} {args : Array Value} {ds : List (DataW H)} {before : List MemPlace} {tb : TypeId}
    (hl : laidOutB P = true) (hr : ∀ t ∈ fn.params.toList, P.readableRec t = true ∧ t < P.types.size) (hv : s.vars = []) (hres : fn.resultTypes = #[tb]) (htb : P.underlying tb = some .bool)
    (hs : s.fn H ds = { results := [.lit (.bool true)], args := ds }) (hW : DataW.Whole enc P fn.params.toList s.vars apart W args.toList ds [] before) (hb : Below W.heap.size W W') :
    s.post enc P fn apart fresh handsOn false W args (.bool true) W' := by
  have hlt := hW.lt
  have hW' := hW
  obtain ⟨p, q, hA, hV, rfl, _, _⟩ := hW'
  rw [hv] at hV
  have hq := (trodVars_none hV).2
  subst hq
  have e : s.fn H (ds ++ []) = { results := [.lit (.bool true)], args := ds } := by rw [List.append_nil]; exact hs
  refine ⟨ds, [], p ++ [], [], p, [], hW, ?_, ?_, ?_, hb.frame _, fun h => by cases h⟩
  · rw [e, hres]
    exact trodAll_mk1 ⟨1, by simp [DataW.trod, Value.cells, htb]⟩
  · rw [e]
    exact trodAll_stays hl hb _ _ _ _ hr (by simpa using hlt) (fun x hx => by simpa using hlt x (by simp [hx])) hA
  · rw [e, hv]; rfl

/-- From the evaluator: a law's call. -/
theorem calls_true {P : Program} {E : EProg} (hE : ProgOk P E) {d : Nat} {f : FuncId} {vs : List Value} {h h' : Heap} (hc : E.call d h.length f vs h = some (.bool true, h')) {W : World} {args : Array Value} {ρ : Ren}
    (hg : GlobOk E.glob ρ) (hla : LaidOk P E.glob (W.heap.size ≤ ·) W) (hs : Sim (E.kind P) (W.heap.size ≤ ·) ρ h.get W) (hd : ∀ i L, ρ i = some L → i < h.length) (ha : LRel (VRel ρ) vs args.toList) :
    Calls P f args W fun e W' => e = .returned (.bool true) ∧ Below W.heap.size W W' := by
  have := (prog_sound hE d h.length f vs h _ h' (Nat.le_refl _) hc).2.2.2 ρ W (W.heap.size ≤ ·) args.toList (fun _ hk => hk) ⟨hg, hla⟩ hs hd ha
  refine this.mono fun e W' ⟨v', ρ', he, _, hv, _, _, _, hf⟩ => ?_
  rw [hv.bool_inv] at he
  exact ⟨he, hf.os, hf.tape, hf.output, hf.size, fun k hk => hf.block k hk (by omega)⟩
end Go.Abs
/- What a law's row gives of its arguments, read into the abstract heap: any data of numbers, truth values, texts, slices, structs, arrays. -/
namespace Go.Abs

/-- The types of cells. -/
inductive CT where
  | int (k : IntKind)
  | bool
  | str
  | sl (es : List CT)

/-- The cells of a type, flat. -/
def ctFields (P : Program) (flat : TypeId → Option (List CT)) : Nat → List Field → Option (List CT)
  | _, [] => some []
  | o, f :: r => match flat f.type with
    | some es => if f.offset = o ∧ es.length = P.cellsOf f.type then (ctFields P flat (o + es.length) r).map (es ++ ·) else none
    | none => none
def ctOf (P : Program) : Nat → TypeId → Option (List CT)
  | 0, _ => none
  | d + 1, t => match P.underlying t with
    | some (.int k) => some [.int k]
    | some .bool => some [.bool]
    | some .string => some [.str]
    | some (.slice e) => match ctOf P d e with
      | some es => if es.length = P.cellsOf e ∧ 0 < es.length then some [.sl es] else none
      | none => none
    | some (.struct fs) => match ctFields P (ctOf P d) 0 fs.toList with
      | some es => if es.length = P.cellsOf t then some es else none
      | none => none
    | some (.array n e) => match ctOf P d e with
      | some es => if es.length = P.cellsOf e ∧ n * es.length = P.cellsOf t then some (List.replicate n es).flatten else none
      | none => none
    | _ => none

/-- An abstract value is of a cell's type. -/
def Typ : Nat → Heap → CT → Value → Prop
  | _, _, .int k, v => ∃ n, v = .int k n ∧ (Lit.int k n).wf = true
  | _, _, .bool, v => ∃ b, v = .bool b
  | _, _, .str, v => ∃ s, v = .string s ∧ s.size ≤ maxLen
  | 0, _, .sl _, _ => False
  | d + 1, h, .sl es, v => ∃ n cs, Sl es.length h v n cs ∧ n ≤ maxLen ∧ ∀ (i j : Nat) c u, i < n → es[j]? = some c → cs[i * es.length + j]? = some u → Typ d h c u
def TypL (d : Nat) (h : Heap) (es : List CT) (us : List Value) : Prop := ∀ (j : Nat) c u, es[j]? = some c → us[j]? = some u → Typ d h c u

theorem Typ.app {l : List (Option Blk)} : ∀ {d : Nat} {h : Heap} {c : CT} {v : Value}, Typ d h c v → Typ d (h ++ l) c v
  | d, h, .int k, v, t => by cases d <;> exact t
  | d, h, .bool, v, t => by cases d <;> exact t
  | d, h, .str, v, t => by cases d <;> exact t
  | 0, h, .sl es, v, t => by exact t.elim
  | d + 1, h, .sl es, v, t => by
    obtain ⟨n, cs, s, hn, k⟩ := t
    exact ⟨n, cs, s.app l, hn, fun i j c u hi hc hu => (k i j c u hi hc hu).app⟩
theorem TypL.app {l : List (Option Blk)} {d : Nat} {h : Heap} {es : List CT} {us : List Value} (t : TypL d h es us) : TypL d (h ++ l) es us := fun j c u hc hu => (t j c u hc hu).app

/-- The abstract heap shows blocks of the world, none that may be written. -/
structure Inv (W : World) (h : Heap) (ρ : Ren) : Prop where
  dom : ∀ i L, ρ i = some L → i < h.length
  blk : ∀ i b, h.get i = some b → b.rw = false ∧ ∀ L, ρ i = some L → ∀ K, BlkOk K ρ L b W.heap[L.blk]?

theorem Inv.sim {K : LoopKind} {W : World} {h : Heap} {ρ : Ren} (I : Inv W h ρ) (Own : Nat → Prop) : Sim K Own ρ h.get W :=
  ⟨fun i b L h1 h2 => (I.blk i b h1).2 L h2 K, fun i b L h1 _ h3 => (by rw [(I.blk i b h1).1] at h3; cases h3), fun i j b c L M _ h1 h2 => (by rw [(I.blk i b h1).1] at h2; cases h2)⟩

theorem hget_ge_app {h : Heap} {l : List (Option Blk)} {i : Nat} (k : h.length ≤ i) : Heap.get (h ++ l) i = (l[i - h.length]?).getD none := by
  unfold Heap.get; rw [List.getElem?_append_right k]

/-- A block is added. -/
theorem Inv.push {W : World} {h : Heap} {ρ : Ren} (I : Inv W h ρ) (o : Option Blk) (L : Loc) (ho : ∀ b, o = some b → b.rw = false ∧ ∀ K, BlkOk K ρ L b W.heap[L.blk]?) :
    ∃ ρ', Inv W (h ++ [o]) ρ' ∧ ρ.le ρ' ∧ ρ' h.length = some L := by
  refine ⟨fun i => if i = h.length then some L else ρ i, ?_, ?_, by simp⟩
  · have hle : ρ.le (fun i => if i = h.length then some L else ρ i) := by
      intro i M e
      have := I.dom i M e
      show (if i = h.length then some L else ρ i) = some M
      rw [if_neg (by omega)]; exact e
    constructor
    · intro i M e
      replace e : (if i = h.length then some L else ρ i) = some M := e
      split at e
      · rename_i q; subst q; simp
      · have := I.dom i M e; simp; omega
    · intro i b e
      rcases Nat.lt_trichotomy i h.length with q | q | q
      · rw [get_app q] at e
        refine ⟨(I.blk i b e).1, fun M k => ?_⟩
        simp only [if_neg (show ¬ i = h.length by omega)] at k
        exact fun K => ((I.blk i b e).2 M k K).mono hle
      · subst q
        rw [hget_ge_app (Nat.le_refl _)] at e
        simp at e
        refine ⟨(ho b e).1, fun M k => ?_⟩
        simp at k; subst k
        exact fun K => ((ho b e).2 K).mono hle
      · rw [Heap.get_ge (by simp; omega)] at e; cases e
  · intro i M e
    have := I.dom i M e
    show (if i = h.length then some L else ρ i) = some M
    rw [if_neg (by omega)]; exact e

/-- How many blocks are read in: none: it depends on the data. -/
def CT.isSl : CT → Bool
  | .sl _ => true
  | _ => false
def ctOne : CT → Option Nat
  | .sl es => if es.all fun c => !c.isSl then some 1 else none
  | _ => some 0
def ctBlocks : List CT → Option Nat
  | [] => some 0
  | c :: r => match ctOne c, ctBlocks r with
    | some a, some b => some (a + b)
    | _, _ => none
theorem ctBlocks_app : ∀ (a b : List CT) (n : Nat), ctBlocks (a ++ b) = some n → ∃ k l, ctBlocks a = some k ∧ ctBlocks b = some l ∧ n = k + l
  | [], b, n, h => ⟨0, n, rfl, h, by omega⟩
  | c :: r, b, n, h => by
    simp only [List.cons_append, ctBlocks] at h ⊢
    split at h
    · rename_i x y h1 h2
      obtain ⟨k, l, e1, e2, e3⟩ := ctBlocks_app r b y h2
      cases h
      exact ⟨x + k, l, by simp [h1, e1], e2, by omega⟩
    · cases h
theorem ctBlocks_none {es : List CT} : (es.all fun c => !c.isSl) = true → ctBlocks es = some 0 := by
  induction es with
  | nil => intro _; rfl
  | cons c r ih =>
    intro h
    simp only [List.all_cons, Bool.and_eq_true] at h
    have := ih h.2
    cases c with
    | sl _ => simp [CT.isSl] at h
    | _ => simp [ctBlocks, ctOne, this]
theorem ctBlocks_rep {es : List CT} (h : ctBlocks es = some 0) : ∀ n, ctBlocks (List.replicate n es).flatten = some 0
  | 0 => rfl
  | n + 1 => by
    have key : ∀ (a b : List CT), ctBlocks a = some 0 → ctBlocks b = some 0 → ctBlocks (a ++ b) = some 0 := by
      intro a b ha hb
      induction a with
      | nil => exact hb
      | cons c r ih =>
        simp only [ctBlocks, List.cons_append] at ha ⊢
        split at ha
        · rename_i x y h1 h2
          have hxy : x = 0 ∧ y = 0 := by simp at ha; omega
          obtain ⟨rfl, rfl⟩ := hxy
          simp [h1, ih h2]
        · cases ha
    rw [List.replicate_succ, List.flatten_cons]
    exact key _ _ h (ctBlocks_rep h n)

/-- Cells that can be read in. -/
def Loadable (W : World) (d : Nat) (es : List CT) (cs : List Value) : Prop :=
  ∀ h ρ, Inv W h ρ → ∃ bs ρ' us, Inv W (h ++ bs) ρ' ∧ ρ.le ρ' ∧ us.length = es.length ∧ LRel (VRel ρ') us cs ∧ TypL d (h ++ bs) es us ∧ ∀ n, ctBlocks es = some n → bs.length = n

theorem Loadable.nil (W : World) (d : Nat) : Loadable W d [] [] := fun h ρ I => ⟨[], ρ, [], by simpa using I, ρ.le_refl, rfl, trivial, (by intro j c u hc; simp at hc), by intro n hn; cases hn; rfl⟩
theorem Loadable.append {W : World} {d : Nat} {e1 e2 : List CT} {c1 c2 : List Value} (h1 : Loadable W d e1 c1) (h2 : Loadable W d e2 c2) : Loadable W d (e1 ++ e2) (c1 ++ c2) := by
  intro h ρ I
  obtain ⟨b1, ρ1, u1, I1, l1, n1, r1, t1, k1⟩ := h1 h ρ I
  obtain ⟨b2, ρ2, u2, I2, l2, n2, r2, t2, k2⟩ := h2 _ ρ1 I1
  refine ⟨b1 ++ b2, ρ2, u1 ++ u2, by rw [← List.append_assoc]; exact I2, Ren.le_trans l1 l2, by simp [n1, n2], (r1.mono fun _ _ x => x.mono l2).append r2, ?_, fun n hn => by
    obtain ⟨k, l, q1, q2, q3⟩ := ctBlocks_app _ _ _ hn
    rw [List.length_append, k1 k q1, k2 l q2, q3]⟩
  rw [← List.append_assoc]
  intro j c u hc hu
  rcases Nat.lt_or_ge j e1.length with q | q
  · rw [List.getElem?_append_left q] at hc
    rw [List.getElem?_append_left (by omega)] at hu
    exact (t1 j c u hc hu).app
  · rw [List.getElem?_append_right q] at hc
    rw [List.getElem?_append_right (by omega), n1] at hu
    exact t2 _ c u hc hu
theorem Loadable.plain {W : World} {d : Nat} {c : CT} {v : Value} (hp : plainV v = true) (ht : ∀ h, Typ d h c v) (hc : c.isSl = false) : Loadable W d [c] [v] := fun h ρ I =>
  ⟨[], ρ, [v], by simpa using I, ρ.le_refl, rfl, ⟨.plain hp, trivial⟩, (by
    intro j c' u hc hu
    match j with
    | 0 => simp at hc hu; subst hc; subst hu; exact ht _
    | j + 1 => simp at hc), by
    intro n hn
    rw [ctBlocks_none (by simp [hc])] at hn; cases hn; rfl⟩
/-- n chunks of the same types. -/
theorem Loadable.many {W : World} {d : Nat} {es : List CT} : ∀ (ccs : List (List Value)), (∀ c ∈ ccs, Loadable W d es c) → Loadable W d (List.replicate ccs.length es).flatten ccs.flatten
  | [], _ => Loadable.nil W d
  | c :: r, h => by
    simp only [List.length_cons, List.replicate_succ, List.flatten_cons]
    exact (h c (by simp)).append (Loadable.many r fun x hx => h x (by simp [hx]))

theorem flatten_len {α : Type} {n : Nat} : ∀ (l : List (List α)), (∀ x ∈ l, x.length = n) → l.flatten.length = l.length * n
  | [], _ => by simp
  | a :: r, h => by simp only [List.flatten_cons, List.length_append, h a (by simp), flatten_len r fun x hx => h x (by simp [hx]), List.length_cons]; rw [Nat.add_mul]; omega
theorem flatten_get {α : Type} {n : Nat} : ∀ (l : List (List α)), (∀ x ∈ l, x.length = n) → ∀ (i j : Nat) (hi : i < l.length), j < n → l.flatten[i * n + j]? = (l[i])[j]?
  | [], _, _, _, hi, _ => by simp at hi
  | a :: r, h, 0, j, _, hj => by simp only [List.flatten_cons]; rw [Nat.zero_mul, Nat.zero_add, List.getElem?_append_left (by rw [h a (by simp)]; exact hj)]; rfl
  | a :: r, h, i + 1, j, hi, hj => by
    have ha := h a (by simp)
    have := flatten_get r (fun x hx => h x (by simp [hx])) i j (by simpa using hi) hj
    simp only [List.flatten_cons]
    rw [List.getElem?_append_right (by rw [ha, Nat.add_mul]; omega), ha, show (i + 1) * n + j - n = i * n + j by rw [Nat.add_mul]; omega, this]; rfl

section load
variable {H : Type} {enc : TypeId × Value → H} {P : Program} {W : World} {held : Bool}

theorem load_fields {d : Nat} {n : Nat} {cs : List Value} (ih : ∀ t es, ctOf P d t = some es → ∀ fuel cs x, DataW.trod enc P W 0 (fun _ => true) held fuel t cs = some x → Loadable W d es cs) :
    ∀ (fs : List Field) (o : Nat) (es : List CT), ctFields P (ctOf P d) o fs = some es → o + es.length = cs.length → (∀ f ∈ fs, ∃ x, DataW.trod enc P W 0 (fun _ => true) held n f.type ((cs.drop f.offset).take (P.cellsOf f.type)) = some x) → Loadable W d es (cs.drop o)
  | [], o, es, he, hl, _ => by
    simp [ctFields] at he; subst he
    rw [List.drop_eq_nil_of_le (by simp at hl; omega)]
    exact Loadable.nil W d
  | f :: r, o, es, he, hl, hf => by
    simp only [ctFields] at he
    split at he
    · rename_i e1 h1
      split at he
      · rename_i hc
        obtain ⟨ho, hn⟩ := hc
        simp only [Option.map_eq_some_iff] at he
        obtain ⟨e2, h2, rfl⟩ := he
        obtain ⟨x, hx⟩ := hf f (by simp)
        rw [ho, ← hn] at hx
        have a := ih _ _ h1 _ _ _ hx
        have b := load_fields ih r (o + e1.length) e2 h2 (by simp at hl; omega) fun g hg => hf g (by simp [hg])
        have := a.append b
        rwa [← List.drop_drop, List.take_append_drop] at this
      · cases he
    · cases he

theorem load_chunks {d s : Nat} {es : List CT} {cs : List Value} : ∀ (n o : Nat), o + n * s = cs.length → (∀ i, i < n → Loadable W d es ((cs.drop (o + i * s)).take s)) → Loadable W d (List.replicate n es).flatten (cs.drop o)
  | 0, o, hl, _ => by
    rw [List.drop_eq_nil_of_le (by omega)]
    exact Loadable.nil W d
  | n + 1, o, hl, h => by
    rw [List.replicate_succ, List.flatten_cons]
    have a := h 0 (by omega)
    rw [Nat.zero_mul, Nat.add_zero] at a
    have b := load_chunks (s := s) (es := es) (d := d) (cs := cs) n (o + s) (by rw [Nat.add_mul] at hl; omega) fun i hi => by
      have := h (i + 1) (by omega)
      rwa [show o + (i + 1) * s = o + s + i * s by rw [Nat.add_mul]; omega] at this
    have := a.append b
    rwa [← List.drop_drop, List.take_append_drop] at this

theorem cells_app {a : Addr} {i s j : Nat} (h : a.spot = none) : ((a.add (i * s)).add j) = ⟨a.block, a.off + (i * s + j), none⟩ := by
  obtain ⟨b, o, sp⟩ := a
  simp only at h; subst h
  unfold Addr.add
  split <;> split <;> simp <;> omega

theorem load : ∀ (d : Nat) (t : TypeId) (es : List CT), ctOf P d t = some es → ∀ fuel cs x, DataW.trod enc P W 0 (fun _ => true) held fuel t cs = some x → Loadable W d es cs
  | 0, _, _, h => by simp [ctOf] at h
  | d + 1, t, es, h => by
    intro fuel cs x hx
    have up : ∀ {es cs}, Loadable W d es cs → Loadable W (d + 1) es cs := by
      intro es cs L h ρ I
      obtain ⟨bs, ρ', us, I', l, n, r, ty, kb⟩ := L h ρ I
      refine ⟨bs, ρ', us, I', l, n, r, fun j c u hc hu => ?_, kb⟩
      have key : ∀ (d : Nat) (h : Heap) (c : CT) (v : Value), Typ d h c v → Typ (d + 1) h c v := by
        intro d
        induction d with
        | zero =>
          intro h c v t
          cases c with
          | sl es => exact t.elim
          | int k => exact t
          | bool => exact t
          | str => exact t
        | succ d ih =>
          intro h c v t
          cases c with
          | sl es =>
            obtain ⟨n, cs, s, hn, k⟩ := t
            exact ⟨n, cs, s, hn, fun i j c u hi hc hu => ih _ _ _ (k i j c u hi hc hu)⟩
          | int k => exact t
          | bool => exact t
          | str => exact t
      exact key _ _ _ _ (ty j c u hc hu)
    unfold ctOf at h
    split at h
    · rename_i k ht
      cases h
      obtain ⟨n, rfl, _, hw⟩ := DataW.trod_int ht hx
      exact .plain rfl (fun _ => ⟨n, rfl, hw⟩) rfl
    · rename_i ht
      cases h
      obtain ⟨b, rfl, _⟩ := DataW.trod_bool ht hx
      exact .plain rfl (fun _ => ⟨b, rfl⟩) rfl
    · rename_i ht
      cases h
      obtain ⟨s, rfl, _, hs⟩ := DataW.trod_string ht hx
      exact .plain rfl (fun _ => ⟨s, rfl, hs⟩) rfl
    · rename_i e ht
      split at h
      · rename_i es' he
        split at h
        · rename_i hc
          obtain ⟨hc, hpos⟩ := hc
          cases h
          have one : ∀ {α : Type} {x : α} n, ctBlocks [CT.sl es'] = some n → [x].length = n := by
            intro α x n hn
            simp only [ctBlocks, ctOne] at hn
            split at hn
            · rename_i a b h1 h2
              split at h1
              · cases h1; cases h2; cases hn; rfl
              · cases h1
            · cases hn
          rcases DataW.trod_slice ht hx with ⟨rfl, _⟩ | ⟨a, len, cap, elems, rest, n, _, rfl, _, _, hlc, hcm, hlen, hel, hre, _⟩
          · intro h ρ I
            obtain ⟨ρ', I', l, _⟩ := I.push none ⟨0, 0, 0, false⟩ (by intro b q; cases q)
            refine ⟨[none], ρ', [.slice none 0 0], I', l, rfl, ⟨.plain rfl, trivial⟩, ?_, one⟩
            intro j c u hc hu
            match j with
            | 0 =>
              simp at hc hu; subst hc; subst hu
              exact ⟨0, [], ⟨rfl, by simp, fun q => absurd rfl q, .inl rfl, by simp⟩, by simp, by intro i j c u hi; omega⟩
            | j + 1 => simp at hc
          · obtain ⟨hrl, hre⟩ := hre rfl
            -- all cells up to the capacity
            have cellAt : ∀ i, i < cap → ∃ ecs y, W.cells? 0 (a.add (i * P.cellsOf e)) (P.cellsOf e) = some ecs ∧ DataW.trod enc P W 0 (fun _ => true) held n e ecs = some y := by
              intro i hi
              rcases Nat.lt_or_ge i len with q | q
              · have := hel i q
                rw [List.getElem?_eq_getElem (by omega)] at this
                simp only [Option.bind_eq_some_iff] at this
                obtain ⟨ecs, h1, h2⟩ := this
                exact ⟨ecs, _, h1, h2⟩
              · have := hre (i - len) (by omega)
                rw [List.getElem?_eq_getElem (by omega), show len + (i - len) = i by omega] at this
                simp only [Option.bind_eq_some_iff] at this
                obtain ⟨ecs, h1, h2⟩ := this
                exact ⟨ecs, _, h1, h2⟩
            rcases Nat.eq_zero_or_pos cap with hc0 | hc0
            · -- no cell at all
              have hl0 : len = 0 := by omega
              subst hc0; subst hl0
              intro h ρ I
              obtain ⟨ρ', I', l, hL⟩ := I.push none ⟨a.block, a.off, 0, false⟩ (by intro b q; cases q)
              refine ⟨[none], ρ', [.slice (some ⟨h.length, 0, none⟩) 0 0], I', l, rfl, ⟨.slice hL (Nat.le_refl _) rfl (fun q => absurd rfl q) (fun _ => rfl) (fun q => absurd rfl q) (by simp), trivial⟩, ?_, one⟩
              intro j c u hc hu
              match j with
              | 0 =>
                simp at hc hu; subst hc; subst hu
                exact ⟨0, [], ⟨rfl, by simp, fun q => absurd rfl q, .inr ⟨h.length, 0, 0, 0, rfl, by simp⟩, by simp⟩, by simp, by intro i j c u hi; omega⟩
              | j + 1 => simp at hc
            · have hspot : a.spot = none ∧ ∃ cur ty fz, W.heap[a.block]? = some (.cells cur ty fz) := by
                obtain ⟨ecs, _, h1, _⟩ := cellAt 0 hc0
                obtain ⟨_, hl, hcell⟩ := World.cells?_some h1
                have h2 := hcell 0 (by omega)
                rw [List.getElem?_eq_getElem (by omega)] at h2
                simp only [Nat.zero_mul, Addr.add, if_true] at h2
                unfold World.cell? at h2
                split at h2
                · rename_i cur ty fz hb
                  split at h2
                  · cases h2
                  · rename_i q; exact ⟨by simpa using q, cur, ty, fz, hb⟩
                · cases h2
              obtain ⟨hspot, cur, ty, fz, hblk⟩ := hspot
              have hcur : ∀ i j, i < cap → j < es'.length → ∃ ecs, W.cells? 0 (a.add (i * P.cellsOf e)) (P.cellsOf e) = some ecs ∧ cur[a.off + (i * es'.length + j)]? = ecs[j]? ∧ ecs.length = es'.length := by
                intro i j hi hj
                obtain ⟨ecs, _, h1, _⟩ := cellAt i hi
                obtain ⟨_, hl, hcell⟩ := World.cells?_some h1
                have h2 := hcell j (by omega)
                rw [cells_app hspot] at h2
                unfold World.cell? at h2
                rw [hblk] at h2
                refine ⟨ecs, h1, ?_, by omega⟩
                rw [← h2, hc]; rfl
              have hsz : a.off + cap * es'.length ≤ cur.size := by
                obtain ⟨ecs, _, h2, hl⟩ := hcur (cap - 1) (es'.length - 1) (by omega) (by omega)
                rw [List.getElem?_eq_getElem (by omega)] at h2
                obtain ⟨q, _⟩ := Array.getElem?_eq_some_iff.1 h2
                have : cap * es'.length = (cap - 1) * es'.length + es'.length := by
                  rw [← Nat.succ_mul]; congr 1; omega
                omega
              -- the elements
              let ccs : List (List Value) := (List.range len).map fun i => (W.cells? 0 (a.add (i * P.cellsOf e)) (P.cellsOf e)).getD []
              have hccs : ∀ i (hi : i < len), ∃ ecs, W.cells? 0 (a.add (i * P.cellsOf e)) (P.cellsOf e) = some ecs ∧ ccs[i]? = some ecs := by
                intro i hi
                obtain ⟨ecs, _, h1, _⟩ := cellAt i (by omega)
                exact ⟨ecs, h1, by simp [ccs, hi, h1]⟩
              have hlen' : ccs.length = len := by simp [ccs]
              have hmany : Loadable W d (List.replicate ccs.length es').flatten ccs.flatten := by
                refine Loadable.many ccs fun c hcm => ?_
                obtain ⟨i, hi, rfl⟩ := List.getElem_of_mem hcm
                obtain ⟨ecs, y, h1, h2⟩ := cellAt i (by omega)
                obtain ⟨ecs', h3, h4⟩ := hccs i (by omega)
                rw [h1] at h3; cases h3
                rw [List.getElem?_eq_getElem hi] at h4
                cases h4
                exact load d e es' he _ _ _ h2
              have hcl : ∀ c ∈ ccs, c.length = es'.length := by
                intro c hcm
                obtain ⟨i, hi, rfl⟩ := List.getElem_of_mem hcm
                obtain ⟨ecs', h3, h4⟩ := hccs i (by omega)
                rw [List.getElem?_eq_getElem hi] at h4
                cases h4
                obtain ⟨_, hl, _⟩ := World.cells?_some h3
                omega
              intro h ρ I
              obtain ⟨bs, ρ1, us, I1, l1, n1, r1, t1, k1⟩ := hmany h ρ I
              rw [flatten_len _ (n := es'.length) (by simp), List.length_replicate, hlen'] at n1
              have hbk : ∀ K, BlkOk K ρ1 ⟨a.block, a.off, cap * es'.length, false⟩ ⟨us, false⟩ W.heap[a.block]? := by
                refine fun K => CellsOk.ok ?_ rfl
                refine ⟨cur, ty, fz, hblk, hsz, ?_, (fun q => by cases q), ?_⟩
                · simp only [n1]; exact Nat.mul_le_mul_right _ hlc
                · intro i v hv
                  simp only at hv ⊢
                  obtain ⟨v', hv', hr⟩ := r1.get hv
                  refine ⟨v', ?_, hr⟩
                  have hi : i < len * es'.length := by rw [← n1]; exact (List.getElem?_eq_some_iff.1 hv).1
                  have hq : i / es'.length < len := Nat.div_lt_of_lt_mul (by rw [Nat.mul_comm]; exact hi)
                  have hm : i % es'.length < es'.length := Nat.mod_lt _ hpos
                  have e1 : i / es'.length * es'.length + i % es'.length = i := by rw [Nat.mul_comm]; exact Nat.div_add_mod _ _
                  obtain ⟨ecs, g1, g2, _⟩ := hcur (i / es'.length) (i % es'.length) (by omega) hm
                  obtain ⟨ecs', g3, g4⟩ := hccs _ hq
                  rw [g1] at g3; cases g3
                  rw [e1] at g2
                  rw [g2, ← hv']
                  have := flatten_get ccs hcl (i / es'.length) (i % es'.length) (by omega) hm
                  rw [e1] at this
                  rw [this]
                  rw [List.getElem?_eq_getElem (by omega)] at g4
                  rw [Option.some.inj g4]
              obtain ⟨ρ2, I2, l2, hL⟩ := I1.push (some ⟨us, false⟩) ⟨a.block, a.off, cap * es'.length, false⟩ (by intro b q; cases q; exact ⟨rfl, hbk⟩)
              refine ⟨bs ++ [some ⟨us, false⟩], ρ2, [.slice (some ⟨(h ++ bs).length, 0, none⟩) len es'.length], by rw [← List.append_assoc]; exact I2, Ren.le_trans l1 l2, rfl,
                ⟨.slice hL hlc rfl (fun _ => hspot) (fun q => by omega) (fun _ => ⟨by simp, by simp⟩) hcm, trivial⟩, ?_, fun n hn => ?_⟩
              rotate_left
              · simp only [ctBlocks, ctOne] at hn
                split at hn
                · rename_i a b h1 h2
                  split at h1
                  · rename_i hall
                    cases h1; cases h2; cases hn
                    have := k1 0 (ctBlocks_rep (ctBlocks_none hall) _)
                    simp [this]
                  · cases h1
                · cases hn
              rw [← List.append_assoc]
              intro j c u hc' hu
              match j with
              | 0 =>
                simp at hc' hu; subst hc'; subst hu
                refine ⟨len, us, ⟨rfl, n1, fun _ => by simp, .inr ⟨_, 0, len, es'.length, rfl, by simp⟩, fun k hk => ?_⟩, by omega, fun i j c u hi hc' hu => ?_⟩
                · simp only [slB_some, slO_some, Nat.zero_add]
                  unfold Heap.cell
                  rw [← List.length_append, hget_ge_app (Nat.le_refl _)]; simp
                · refine (t1 (i * es'.length + j) c u ?_ hu).app
                  have hj := (List.getElem?_eq_some_iff.1 hc').1
                  rw [flatten_get (n := es'.length) _ (by simp) i j (by simp; omega) hj]
                  simpa using hc'
              | j + 1 => simp at hc'
        · cases h
      · cases h
    · rename_i fs ht
      split at h
      · rename_i es' he
        split at h
        · rename_i hn
          cases h
          obtain ⟨xs, n, _, _, hl, hlen, hf⟩ := DataW.trod_struct ht hx
          have := load_fields (enc := enc) (P := P) (W := W) (held := held) (n := n) (cs := cs) (fun t es q => load d t es q) fs.toList 0 es he (by omega) (by
            intro f hm
            obtain ⟨i, hi, rfl⟩ := List.getElem_of_mem hm
            have hi' : i < fs.size := by simpa using hi
            have := hf i fs[i] (by simp)
            rw [List.getElem?_eq_getElem (by omega)] at this
            exact ⟨_, by simpa using this⟩)
          exact up (by simpa using this)
        · cases h
      · cases h
    · rename_i n e ht
      split at h
      · rename_i es' he
        split at h
        · rename_i hn
          cases h
          obtain ⟨xs, m, _, _, hl, hlen, hf⟩ := DataW.trod_array ht hx
          have := load_chunks (W := W) (d := d) (s := es'.length) (es := es') (cs := cs) n 0 (by omega) (by
            intro i hi
            have := hf i hi
            rw [List.getElem?_eq_getElem (by omega), ← hn.1] at this
            rw [Nat.zero_add]
            exact load d e es' he _ _ _ this)
          exact up (by simpa using this)
        · cases h
      · cases h
    · cases h
end load
end Go.Abs
/- A law's arguments, all of them, and its call. -/
namespace Go.Abs
open Go.ChangeShapes Go.WideShapes Go.RowKit

def ctArg (P : Program) (d : Nat) (t : TypeId) : Option (Bool × List CT) :=
  match P.underlying t with
  | some (.struct _) | some (.array _ _) => (ctOf P d t).map (true, ·)
  | _ => (ctOf P d t).map (false, ·)
def ArgV (d : Nat) (h : Heap) : Bool × List CT → Value → Prop
  | (true, es), u => ∃ us : List Value, u = .agg us.toArray ∧ us.length = es.length ∧ TypL d h es us
  | (false, es), u => es.length = 1 ∧ TypL d h es [u]
def ArgsV (d : Nat) (h : Heap) : List (Bool × List CT) → List Value → Prop
  | [], [] => True
  | c :: cs, u :: us => ArgV d h c u ∧ ArgsV d h cs us
  | _, _ => False
theorem ArgV.app {d : Nat} {h : Heap} {l : List (Option Blk)} : ∀ {c : Bool × List CT} {u : Value}, ArgV d h c u → ArgV d (h ++ l) c u
  | (true, _), _, ⟨us, e, n, t⟩ => ⟨us, e, n, t.app⟩
  | (false, _), _, ⟨n, t⟩ => ⟨n, t.app⟩
theorem ArgsV.app {d : Nat} {h : Heap} {l : List (Option Blk)} : ∀ {cs : List (Bool × List CT)} {us : List Value}, ArgsV d h cs us → ArgsV d (h ++ l) cs us
  | [], [], _ => trivial
  | _ :: _, _ :: _, a => ⟨a.1.app, a.2.app⟩
  | [], _ :: _, a => a.elim
  | _ :: _, [], a => a.elim

section
variable {H : Type} {enc : TypeId × Value → H} {P : Program} {W : World}
theorem load_args {d base : Nat} : ∀ (ts : List TypeId) (cts : List (Bool × List CT)) (vs : List Value) (ds : List (DataW H)) (ps : List MemPlace), ts.mapM (ctArg P d) = some cts →
    (∀ (j : Nat) t v, ts[j]? = some t → vs[j]? = some v → Value.okWide P W .any base t v) → DataW.TrodAll enc P W 0 (fun _ => true) true ts vs ds ps →
    ∀ h ρ, Inv W h ρ → ∃ bs ρ' us, Inv W (h ++ bs) ρ' ∧ ρ.le ρ' ∧ LRel (VRel ρ') us vs ∧ ArgsV d (h ++ bs) cts us ∧ ∀ n, ctBlocks (cts.flatMap (·.2)) = some n → bs.length = n
  | [], cts, [], ds, ps, hc, _, _, h, ρ, I => by
    simp at hc; subst hc
    exact ⟨[], ρ, [], by simpa using I, ρ.le_refl, trivial, trivial, fun n hn => by cases hn; rfl⟩
  | t :: ts, cts, v :: vs, d1 :: ds, ps, hc, hval, ht, h, ρ, I => by
    rw [List.mapM_cons] at hc
    rcases hc1 : ctArg P d t with _ | ct
    · rw [hc1] at hc; cases hc
    rcases hc2 : ts.mapM (ctArg P d) with _ | cr
    · rw [hc1, hc2] at hc; cases hc
    rw [hc1, hc2] at hc
    have e : some (ct :: cr) = some cts := hc
    cases e
    obtain ⟨p, q, ⟨fuel, h1⟩, h2, _⟩ := ht
    have hv := hval 0 t v rfl rfl
    have one : ∃ es, ctOf P d t = some es ∧ ((ct = (true, es) ∧ ∃ cs, v = .agg cs) ∨ (ct = (false, es) ∧ v.cells.toList = [v])) := by
      unfold ctArg at hc1
      unfold Value.okWide at hv
      split at hc1
      · rename_i fs hu
        rw [hu] at hv
        simp only [Option.map_eq_some_iff] at hc1
        obtain ⟨es, he, rfl⟩ := hc1
        obtain ⟨cs, rfl, _⟩ := hv
        exact ⟨es, he, .inl ⟨rfl, cs, rfl⟩⟩
      · rename_i n e hu
        rw [hu] at hv
        simp only [Option.map_eq_some_iff] at hc1
        obtain ⟨es, he, rfl⟩ := hc1
        obtain ⟨cs, rfl, _⟩ := hv
        exact ⟨es, he, .inl ⟨rfl, cs, rfl⟩⟩
      · rename_i n1 n2
        simp only [Option.map_eq_some_iff] at hc1
        obtain ⟨es, he, rfl⟩ := hc1
        refine ⟨es, he, .inr ⟨rfl, ?_⟩⟩
        cases v with
        | agg cs =>
          exfalso
          split at hv
          · rename_i hu; exact n1 _ hu
          · rename_i hu; exact n2 _ _ hu
          · unfold Cell.okWide at hv
            split at hv <;> try contradiction
            unfold Cell.ok at hv
            split at hv <;> try contradiction
        | _ => rfl
    obtain ⟨es, hes, hcase⟩ := one
    obtain ⟨b1, ρ1, u1, I1, l1, n1, r1, t1, k1⟩ := load d t es hes fuel _ _ h1 h ρ I
    obtain ⟨b2, ρ2, u2, I2, l2, r2, a2, k2⟩ := load_args ts cr vs ds q hc2 (fun j t v a b => hval (j + 1) t v (by simpa using a) (by simpa using b)) h2 _ ρ1 I1
    have hblocks : ∀ n, ctBlocks ((ct :: cr).flatMap (·.2)) = some n → (b1 ++ b2).length = n := by
      intro n hn
      rw [List.flatMap_cons] at hn
      obtain ⟨k, l, q1, q2, q3⟩ := ctBlocks_app _ _ _ hn
      have hct : ct.2 = es := by rcases hcase with ⟨rfl, _⟩ | ⟨rfl, _⟩ <;> rfl
      rw [hct] at q1
      rw [List.length_append, k1 k q1, k2 l q2, q3]
    rcases hcase with ⟨rfl, cs, rfl⟩ | ⟨rfl, hcell⟩
    · refine ⟨b1 ++ b2, ρ2, .agg u1.toArray :: u2, by rw [← List.append_assoc]; exact I2, Ren.le_trans l1 l2, ⟨?_, r2⟩, ⟨⟨u1, rfl, n1, ?_⟩, ?_⟩, hblocks⟩
      · have := VRel.agg_mk (r1.mono fun _ _ x => x.mono l2)
        simpa [Value.cells] using this
      · rw [← List.append_assoc]; exact t1.app
      · rw [← List.append_assoc]; exact a2
    · rw [hcell] at r1
      match u1, r1 with
      | [u], r1 =>
        refine ⟨b1 ++ b2, ρ2, u :: u2, by rw [← List.append_assoc]; exact I2, Ren.le_trans l1 l2, ⟨r1.1.mono l2, r2⟩, ⟨⟨n1.symm, ?_⟩, ?_⟩, hblocks⟩
        · rw [← List.append_assoc]; exact t1.app
        · rw [← List.append_assoc]; exact a2
  | [], _, _ :: _, _, _, _, _, ht, _, _, _ => ht.elim
  | _ :: _, _, [], _, _, _, _, ht, _, _, _ => ht.elim

theorem Inv.frozen {h : Heap} {ρ : Ren} (I : Inv W h ρ) : h.freeze = h := by
  unfold Heap.freeze
  refine (List.map_congr_left fun o ho => ?_).trans (List.map_id h)
  obtain ⟨i, hi, rfl⟩ := List.getElem_of_mem ho
  rcases e : h[i] with _ | ⟨cs, rw⟩
  · rfl
  · have : h.get i = some ⟨cs, rw⟩ := by unfold Heap.get; rw [List.getElem?_eq_getElem hi, e]; rfl
    have := (I.blk i _ this).1
    simp only at this; subst this; rfl

theorem GlobOk.le {glob : List Nat} {ρ ρ' : Ren} (h : GlobOk glob ρ) (l : ρ.le ρ') : GlobOk glob ρ' := by
  intro g i e
  obtain ⟨L, a, b⟩ := h g i e
  exact ⟨L, l _ _ a, b⟩

/-- A law that the evaluator finds true at all arguments of its types. -/
theorem law_calls {E : EProg} (hE : ProgOk P E) {d dd : Nat} {f : FuncId} {ts : List TypeId} {cts : List (Bool × List CT)} (hcts : ts.mapM (ctArg P d) = some cts) {h0 : Heap} {ρ0 : Ren} (I0 : Inv W h0 ρ0) (hg : GlobOk E.glob ρ0) (hla : LaidOk P E.glob (W.heap.size ≤ ·) W)
    (hlaw : ∀ bs us, (h0 ++ bs).freeze = h0 ++ bs → (∀ n, ctBlocks (cts.flatMap (·.2)) = some n → bs.length = n) → ArgsV d (h0 ++ bs) cts us → ∃ h', E.call dd (h0 ++ bs).length f us (h0 ++ bs) = some (.bool true, h'))
    {base : Nat} {args : Array Value} {ds : List (DataW H)} {ps : List MemPlace} (hval : ∀ (j : Nat) t v, ts[j]? = some t → args[j]? = some v → Value.okWide P W .any base t v)
    (hA : DataW.TrodAll enc P W 0 (fun _ => true) true ts args.toList ds ps) :
    Calls P f args W fun e W' => e = .returned (.bool true) ∧ Below W.heap.size W W' := by
  obtain ⟨bs, ρ, us, I, l, r, a, k⟩ := load_args ts cts args.toList ds ps hcts (fun j t v q1 q2 => hval j t v q1 (by simpa using q2)) hA h0 ρ0 I0
  obtain ⟨h', hc⟩ := hlaw bs us I.frozen k a
  exact calls_true hE hc (hg.le l) hla (I.sim _) I.dom r
end
end Go.Abs
