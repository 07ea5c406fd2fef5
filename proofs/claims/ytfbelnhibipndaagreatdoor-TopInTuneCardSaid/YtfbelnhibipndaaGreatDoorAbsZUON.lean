/- Explanations: one note alone. -/
import Derived.Test.YtfbelnhibipndaaGreatDoorAbsZUOM
import Derived.Test.YtfbelnhibipndaaGreatDoorAbsWpO
set_option linter.unusedSimpArgs false
set_option linter.unusedVariables false
/- Explanations: one note alone. -/
namespace Go.Abs
namespace Z.U
set_option maxRecDepth 100000
theorem clK_false {l : List P4} {F S : List Int} : ∀ k, clK l F S k = false ↔ ∀ i, i < k → fndI F i = true ∨ hasI S (at4 l i).1 = hasI S (at4 l i).2.1
  | 0 => by simp [clK]
  | k + 1 => by
    rw [clK, Bool.or_eq_false_iff, clK_false k]
    constructor
    · rintro ⟨a, b⟩ i hi
      by_cases z : i < k
      · exact a i z
      · obtain rfl : i = k := by omega
        rcases e : fndI F i with _ | _
        · rw [e] at b
          exact .inr (by simpa using b)
        · exact .inl rfl
    · intro h
      refine ⟨fun i hi => h i (by omega), ?_⟩
      rcases h k (by omega) with z | z
      · rw [z]; rfl
      · rw [z]; simp
theorem exE_0 {l : List P4} {F S : List Int} : exE l F S = 0 ↔ ∀ i, i < l.length → (fndI F i = true → hasI S (at4 l i).1 = true ∨ hasI S (at4 l i).2.1 = true) ∧ (fndI F i = false → hasI S (at4 l i).1 = hasI S (at4 l i).2.1) := by
  unfold exE
  have G : fstE (gapE l F S) l.length 0 = 0 ↔ ∀ i, i < l.length → (fndI F i = true → hasI S (at4 l i).1 = true ∨ hasI S (at4 l i).2.1 = true) := by
    rw [fstE_all _ 0 rfl]
    constructor
    · intro h i hi hf
      have := h i (by omega) hi
      unfold gapE at this
      by_cases z : fndI F i = true ∧ hasI S (at4 l i).1 = false ∧ hasI S (at4 l i).2.1 = false
      · rw [if_pos z] at this; cases this
      · rcases e1 : hasI S (at4 l i).1 with _ | _
        · rcases e2 : hasI S (at4 l i).2.1 with _ | _
          · exact absurd ⟨hf, e1, e2⟩ z
          · exact .inr rfl
        · exact .inl rfl
    · intro h i _ hi
      unfold gapE
      rw [if_neg]
      rintro ⟨a, b, c⟩
      rcases h i hi a with z | z
      · rw [b] at z; cases z
      · rw [c] at z; cases z
  by_cases g : fstE (gapE l F S) l.length 0 = 0
  · rw [if_pos g]
    have g' := G.1 g
    rcases e : clK l F S l.length with _ | _
    · rw [if_neg (by decide)]
      have := (clK_false _).1 e
      refine ⟨fun _ i hi => ⟨g' i hi, fun hf => ?_⟩, fun _ => rfl⟩
      rcases this i hi with z | z
      · rw [hf] at z; cases z
      · exact z
    · rw [if_pos rfl]
      refine ⟨fun h => absurd h (by decide), fun h => ?_⟩
      have : clK l F S l.length = false := (clK_false _).2 fun i hi => by
        rcases z : fndI F i with _ | _
        · exact .inr ((h i hi).2 z)
        · exact .inl rfl
      rw [e] at this; cases this
  · rw [if_neg g]
    exact ⟨fun h => absurd h g, fun h => absurd (G.2 fun i hi => (h i hi).1) g⟩
/-- A note explains alone just where its tests are those that failed. -/
theorem exE_one {l : List P4} {F : List Int} {x : Int} (O : TOk l) : exE l F [x] = 0 ↔ ∀ i, i < l.length → (fndI F i = true ↔ isIn (at4 l i) x = true) := by
  rw [exE_0]
  have hs : ∀ y, hasI [x] y = true ↔ y = x := fun y => by rw [hasI_iff, List.mem_singleton]
  have hi' : ∀ i, isIn (at4 l i) x = true ↔ (at4 l i).1 = x ∨ (at4 l i).2.1 = x := fun i => by simp [isIn]
  constructor
  · intro h i hi
    obtain ⟨a, b⟩ := h i hi
    rw [hi']
    constructor
    · intro hf
      rcases a hf with z | z
      · exact .inl ((hs _).1 z)
      · exact .inr ((hs _).1 z)
    · intro hx
      rcases e : fndI F i with _ | _
      · have c := b e
        obtain ⟨_, _, _, _, lt⟩ := chkX_0 (O.chk i hi)
        rcases hx with y | y
        · have y2 := (hs _).2 y
          rw [c] at y2
          have := (hs _).1 y2
          omega
        · have y2 := (hs _).2 y
          rw [← c] at y2
          have := (hs _).1 y2
          omega
      · rfl
  · intro h i hi
    have c := h i hi
    rw [hi'] at c
    refine ⟨fun hf => ?_, fun hf => ?_⟩
    · rcases c.1 hf with z | z
      · exact .inl ((hs _).2 z)
      · exact .inr ((hs _).2 z)
    · have n : ¬ ((at4 l i).1 = x ∨ (at4 l i).2.1 = x) := fun z => by rw [c.2 z] at hf; cases hf
      rw [not_or] at n
      rcases e1 : hasI [x] (at4 l i).1 with _ | _
      · rcases e2 : hasI [x] (at4 l i).2.1 with _ | _
        · rfl
        · exact absurd ((hs _).1 e2) n.2
      · exact absurd ((hs _).1 e1) n.1
end Z.U
end Go.Abs
/- Explanations: no two notes alike. -/
namespace Go.Abs
namespace Z.U
set_option maxRecDepth 100000
end Z.U
end Go.Abs
/- Explanations: suspects. -/
namespace Go.Abs
namespace Z.U
set_option maxRecDepth 100000
set_option maxHeartbeats 0
set_option linter.unusedSimpArgs false
def suK (l : List P4) (F N : List Int) : Nat → List Int
  | 0 => []
  | k + 1 => if exE l F [gI N k] = 0 then suK l F N k ++ [gI N k] else suK l F N k
theorem suK_len (l : List P4) (F N : List Int) : ∀ k, (suK l F N k).length ≤ k
  | 0 => Nat.le_refl _
  | k + 1 => by
    have := suK_len l F N k
    unfold suK
    split
    · rw [List.length_append]; simp; omega
    · omega
def suA (l : List P4) (F : List Int) : List Int := suK l F (ntD l) (ntD l).length
theorem c39 {d lim : Nat} {h : Heap} {v w : Value} {l : List P4} {F : List Int} (s : Sl4 h v l) (t : SlI' h w F) (hf : F.length ≤ 1000) (hl : l.length ≤ 12) (e0 : cfE l F = 0) (l0 : l.length ≠ 0) :
    E.call (d + 9) lim 39 [v, w] h = some (.tuple #[lV h.length (suA l F), i64 0], h ++ lB (suA l F)) := by
  have r := s.rules2
  have r' := t.rules2
  obtain ⟨O, hr, AF⟩ := cfE_0 e0
  have k91 := fun lim => c72 (d := d + 3) (lim := lim) (Sl_freeze.2 s) (Sl_freeze.2 t) hf
  have k85 := fun lim => c73 (D := d) (lim := lim) (Sl_freeze.2 s) hl
  unfold ntV ntB at k85
  simp only [if_neg l0] at k85
  have hZ : ∀ i, i < (ntD l).length → i < (ddz (ntS l)).length ∧ gI (ddz (ntS l)) i = gI (ntD l) i := fun i hi => ddz_at hi
  have nl : (ntD l).length ≤ 24 := by
    have := dd_len (ntS l) (ntS l).length
    have := ntS_len l
    unfold ntD; omega
  have hnil : ¬ l = [] := fun e => l0 (by rw [e]; rfl)
  refine call_pure fn39 rfl (by simp [ef39]) ?_
  unfold suA
  generalize ntD l = N at *
  generalize ddz (ntS l) = Z at *
  have cpz := cI_plain Z
  simp [ef39, k91, e0, k85, hnil]
  refine wpC_loop (fun q st => ∃ (i : Nat) (A : List Int), q = N.length - i ∧ i ≤ N.length ∧ A = suK l F N i ∧ st = if A = [] then ⟨[(0, v), (1, w), (7, .slice none 0 0), (17, vS h.length N.length), (18, i64 (N.length : Int)), (19, i64 (i : Int))], h.freeze ++ [some ⟨cI Z, true⟩]⟩ else ⟨[(0, v), (1, w), (7, vS h.length A.length), (17, vS (h.length + 1) N.length), (18, i64 (N.length : Int)), (19, i64 (i : Int))], h.freeze ++ [some ⟨cI A, true⟩, some ⟨cI Z, true⟩]⟩) N.length (by show N.length < 2 ^ 64; omega) ?_ ?_
  · simp [-collect_own1, cpz, hnil, St.tidy, collect_box, s.own, t.own, r, r']
    exact ⟨0, by omega, by omega, by simp [suK]⟩
  · rintro q hq _ ⟨i, A, rfl, hi, hA, rfl⟩
    have al := suK_len l F N i
    rw [← hA] at al
    by_cases lt : i < N.length
    · have lti : (i : Int) < N.length := by omega
      have w1' := w1 (i := i) (by omega)
      obtain ⟨p1, p2, p3, p4, p5⟩ := ixL (hZ i lt).1
      rw [(hZ i lt).2] at p2 p3
      obtain ⟨x, hx⟩ : ∃ x, x = gI N i := ⟨_, rfl⟩
      have hn : suK l F N (i + 1) = if exE l F [x] = 0 then A ++ [x] else A := by rw [suK, ← hA, ← hx]
      rw [← hx] at p2 p3
      have k92 := fun (L : Heap) (b' lim : Nat) (hg : Heap.get (h.freeze ++ L) b' = some ⟨cI [x], true⟩) => c74 (d := d + 4) (lim := lim) ((Sl_freeze.2 s).app L) ((Sl_freeze.2 t).app L) (SlI'_own (n := 1) hg rfl) AF (by omega) hf (by simp)
      have cx : cI [x] = [i64 x] := rfl
      rw [cx] at k92
      have cpa := cI_plain A
      have cpx := cI_plain (A ++ [x])
      have cn : cI A ++ [i64 x] = cI (A ++ [x]) := by simp [cI]
      have one := one_cI A
      have cl := cI_len A
      by_cases z : A = []
      · subst z
        rw [if_pos rfl]
        by_cases y : exE l F [x] = 0
        · rw [if_pos y] at hn
          simp [-collect_own1, lti, lt, Nat.not_le.2 lt, p1, p2, p3, p4, p5, k92, y, w1', fillL, zeros, E.append, E.added, Nat.add_assoc, cpz, St.tidy, collect_box, s.own, t.own, r, r']
          exact ⟨by decide, N.length - (i + 1), by omega, i + 1, rfl, by omega, by rw [hn, if_neg (by simp)]; simp [cI]⟩
        · rw [if_neg y] at hn
          simp [-collect_own1, lti, lt, Nat.not_le.2 lt, p1, p2, p3, p4, p5, k92, y, w1', fillL, zeros, Nat.add_assoc, cpz, St.tidy, collect_box, s.own, t.own, r, r']
          exact ⟨N.length - (i + 1), by omega, i + 1, rfl, by omega, by rw [hn, if_pos rfl]; simp⟩
      · rw [if_neg z]
        by_cases y : exE l F [x] = 0
        · rw [if_pos y] at hn
          simp [-collect_own1, lti, lt, Nat.not_le.2 lt, p1, p2, p3, p4, p5, k92, y, w1', fillL, zeros, E.append, E.added, Nat.add_assoc, cl, cn, cpx, cpz, St.tidy, collect_box, s.own, t.own, r, r']
          exact ⟨⟨by omega, by unfold maxLen; omega⟩, N.length - (i + 1), by omega, i + 1, rfl, by omega, by rw [hn, if_neg (by simp)]; simp⟩
        · rw [if_neg y] at hn
          simp [-collect_own1, lti, lt, Nat.not_le.2 lt, p1, p2, p3, p4, p5, k92, y, w1', fillL, zeros, Nat.add_assoc, cpa, cpz, St.tidy, collect_box, s.own, t.own, r, r']
          exact ⟨N.length - (i + 1), by omega, i + 1, rfl, by omega, by rw [hn, if_neg z]; simp⟩
    · obtain rfl : i = N.length := by omega
      rw [← hA]
      have cpa := cI_plain A
      by_cases z : A = []
      · rw [if_pos z]; subst z
        simp [lV, lB]
      · rw [if_neg z]
        simp [lV, lB, z, cpa]
end Z.U
end Go.Abs
/- Explanations: the only suspect. -/
namespace Go.Abs
namespace Z.U
set_option maxRecDepth 100000
end Z.U
end Go.Abs
/- Sets of notes: small things. -/
namespace Go.Abs
/-- What a function that keeps all blocks must give. -/
def KFull (rs : List ERes) (v : Value) (h' : Heap) : Ex → St → Prop
  | .exit _, _ => False
  | _, st => (wpV (rs.mapM (ERes.get st)) fun vs => retVal vs = v) ∧ st.h = h'
@[simp ↓] theorem KFull_normal {rs : List ERes} {v : Value} {h' : Heap} {st : St} : KFull rs v h' .normal st = ((wpV (rs.mapM (ERes.get st)) fun vs => retVal vs = v) ∧ st.h = h') := rfl
@[simp ↓] theorem KFull_ret {rs : List ERes} {v : Value} {h' : Heap} {st : St} : KFull rs v h' .ret st = ((wpV (rs.mapM (ERes.get st)) fun vs => retVal vs = v) ∧ st.h = h') := rfl
theorem call_full {E : EProg} {f : FuncId} {F : EFun} (hf : E.fn f = some F) (hm : F.mode = .full) {args : List Value} (hl : args.length ≤ F.n) {d lim : Nat} {h h' : Heap} {v : Value}
    (hw : wpC ⟨EProg.call E d, h.length, lim, false, E.glob, E.fuel, EProg.roundOf E (EProg.call E d)⟩ F.code ⟨argFrame 0 args, h⟩ (KFull F.results v h')) :
    E.call (d + 1) lim f args h = some (v, h') := by
  obtain ⟨⟨e, st⟩, hr, hq⟩ := hw
  simp only [EProg.call, hf, hm, EFun.run, if_pos hl, hr]
  cases e with
  | exit id => exact hq.elim
  | normal => obtain ⟨⟨vs, h1, h2⟩, h3⟩ := hq; simp at h1 h2 h3; simp [h1, h2, h3]
  | ret => obtain ⟨⟨vs, h1, h2⟩, h3⟩ := hq; simp at h1 h2 h3; simp [h1, h2, h3]
namespace Z.U
set_option maxRecDepth 100000
set_option maxHeartbeats 0
set_option linter.unusedSimpArgs false
theorem c121 {d lim b n : Nat} {h : Heap} {l : List Int} (s : SlI' h (vS b n) l) (hl : l.length ≤ 100000) : E.call (d + 1) lim 121 [vS b n] h = some (vS h.length l.length, h ++ [some ⟨cI l, true⟩]) := by
  refine call_pure fn121 rfl (by simp [ef121]) ?_
  have A1 := fun (hn : l.length ≠ 0) => app_some (bytes := 8) (b := h.length) (H := h.freeze ++ [some ⟨[], true⟩]) ((Sl_freeze.2 s).app _) hn (by omega) (by rw [hget_base0 (by simp)]; rfl) (one_cI l) (by omega) (by omega)
  have A0 := fun (hn : l.length = 0) => app_none (es := 1) (bytes := 8) (b := h.length) (H := h.freeze ++ [some ⟨[], true⟩]) (cs := cI l) (by have := (Sl_freeze.2 s).app [some ⟨[], true⟩]; rwa [hn] at this) (by omega)
  rcases Nat.eq_zero_or_pos l.length with hz | hz
  · have e0 : cI l = [] := by rw [List.eq_nil_of_length_eq_zero hz]; rfl
    simp [ef121, zeros, fillL, A0, hz, e0, Blk_addrs_nil, Blk_ren_nil]
  · have n0 : l.length ≠ 0 := by omega
    simp [ef121, zeros, fillL, A1, n0]
theorem c75 {d lim b n : Nat} {h : Heap} {k : Int} (hb : b < h.length) : E.call (d + 1) lim 75 [vS b n, i64 k] h = some (.func (.func 119) #[] #[pB h.length, pB (h.length + 1)], h ++ [some ⟨[i64 k], true⟩, some ⟨[vS b n], true⟩]) := by
  refine call_pure fn75 rfl (by simp [ef75]) ?_
  simp [ef75, hb]
/-- The record of the loop in Least. -/
abbrev rec61 (n : Nat) (st : Int) : Option Blk := some ⟨.int .i64 (40 : Nat) :: .int .i64 (0 : Nat) :: .int .i64 st :: [pB n, pB (n + 1), pB (n + 3)], true⟩
theorem set_id {α : Type} {L : List α} {i : Nat} {x : α} (h : L[i]? = some x) : L.set i x = L := by
  apply List.ext_getElem?
  intro j
  rw [List.getElem?_set]
  split
  · rename_i e; subst e
    split
    · exact h.symm
    · rename_i k; rw [List.getElem?_eq_none (by omega)] at h; cases h
  · rfl
end Z.U
end Go.Abs
/- Sets of one note, one by one. -/
namespace Go.Abs
namespace Z.U
set_option maxRecDepth 100000
set_option maxHeartbeats 0
set_option linter.unusedSimpArgs false
/-- One set is looked at: it is the first explanation. -/
theorem r61y {d lim c m : Nat} {h : Heap} {v w : Value} {l : List P4} {F S : List Int} {L : List (Option Blk)} {rw_ : Bool} (s : Sl4 h v l) (t : SlI' h w F) (O : AscL F) (hl : l.length ≤ 1000) (hf : F.length ≤ 1000) (hs : S.length ≤ 1000)
    (e0 : L[0]? = some (some ⟨[v], true⟩)) (e1 : L[1]? = some (some ⟨[w], true⟩)) (e3 : L[3]? = some (some ⟨[.slice none 0 0], true⟩)) (e6 : L[6]? = some (rec61 h.length 0)) (ec : L[c]? = some (some ⟨cI S, rw_⟩)) (c6 : c ≠ 6) (hm : m = S.length) (x0 : exE l F S = 0) (hlim : lim ≤ h.length) :
    EProg.roundOf E (E.call (d + 4)) lim (h.length + 6) [vS (h.length + c) m] (h.freeze ++ L) = some (.bool true, h.freeze ++ (L.set 3 (some ⟨[vS (h.length + (L.length + 1)) 1], true⟩) ++ [some ⟨[vS (h.length + c) m], true⟩, some ⟨[vS (h.length + c) m], true⟩])) := by
  have key : ∃ w h', EProg.roundOf E (E.call (d + 4)) lim (h.length + 6) [vS (h.length + c) m] (h.freeze ++ L) = some (w, h') ∧ w = .bool true ∧ h' = h.freeze ++ (L.set 3 (some ⟨[vS (h.length + (L.length + 1)) 1], true⟩) ++ [some ⟨[vS (h.length + c) m], true⟩, some ⟨[vS (h.length + c) m], true⟩]) := by
    have G : ∀ L' : List (Option Blk), Heap.get (h.freeze ++ L') (h.length + 6) = (L'[6]?).getD none := fun L' => hget_base (by simp)
    refine round1 (us := [pB h.length, pB (h.length + 1), pB (h.length + 3)]) (by rw [G, e6]; rfl) fn40 rfl rfl ?_
    have l6 : 6 < L.length := by
      rcases Nat.lt_or_ge 6 L.length with z | z
      · exact z
      · rw [List.getElem?_eq_none z] at e6; cases e6
    have LS0 : Heap.loopSt (h.freeze ++ L) (h.length + 6) = some 0 := loopSt_get (by rw [G, e6]; rfl)
    have SL0 : ∀ st', Heap.setLoop (h.freeze ++ L) (h.length + 6) st' = some (h.freeze ++ L.set 6 (rec61 h.length st')) := fun st' => by rw [setLoop_get (by rw [G, e6]; rfl), hput_base (by simp)]
    have S0 : L.set 6 (rec61 h.length 0) = L := set_id e6
    have k92 := fun lim => c74 (d := d) (lim := lim) (F := F) (S := S) (h := h.freeze ++ L.set 6 (rec61 h.length (-1))) (u := vS (h.length + c) m) ((Sl_freeze.2 s).app _) ((Sl_freeze.2 t).app _) (SlI'_own (rw := rw_) (by rw [hget_base (by simp), List.getElem?_set_ne (by omega), ec]; rfl) hm) O hl hf hs
    have l3 : 3 < L.length := by omega
    have l3b : ¬ L.length ≤ 3 := by omega
    have g3 : ∀ X : List (Option Blk), (L.set 6 (rec61 h.length (-1)) ++ X)[3]? = some (some ⟨[.slice none 0 0], true⟩) := fun X => by rw [List.getElem?_append_left (by rw [List.length_set]; omega), List.getElem?_set_ne (by omega), e3]
    have p3 : ∀ (X : List (Option Blk)) b, (L.set 6 (rec61 h.length (-1)) ++ X).set 3 b = (L.set 3 b).set 6 (rec61 h.length (-1)) ++ X := fun X b => by rw [List.set_append_left _ _ (by rw [List.length_set]; omega), List.set_comm _ _ (by omega)]
    have e6' : ∀ b, (L.set 3 b)[6]? = some (rec61 h.length 0) := fun b => by rw [List.getElem?_set_ne (by omega), e6]
    have SL1 : ∀ (X : List (Option Blk)) b, Heap.setLoop (h.freeze ++ ((L.set 3 b).set 6 (rec61 h.length (-1)) ++ X)) (h.length + 6) 0 = some (h.freeze ++ (L.set 3 b ++ X)) := fun X b => by
      rw [setLoop_get (a := .int .i64 (40 : Nat)) (b := .int .i64 (0 : Nat)) (c := .int .i64 (-1)) (us := [pB h.length, pB (h.length + 1), pB (h.length + 3)]) (by rw [G, List.getElem?_append_left (by simp; omega)]; simp [l6]), hput_base (by simp), List.set_append_left _ _ (by simp; omega), List.set_set, set_id (e6' b)]
    have hlim3 : lim ≤ h.length + 3 := by omega
    have mx : 1 ≤ maxLen := by decide
    simp [roundFrame, LS0, SL0, S0, e0, e1, e3, k92, x0, fillL, zeros, E.append, E.added, g3, p3, SL1, hlim3, mx]
  obtain ⟨_, _, e, rfl, rfl⟩ := key
  exact e
abbrev a117 (n : Nat) (k : Int) : List Value := [i64 k, pB (n + 9), pB (n + 4), pB (n + 7), pB (n + 5), pB (n + 10)]
abbrev f117 (n : Nat) : Value := .func (.func 120) #[] #[pB (n + 9), pB (n + 4), pB (n + 7), pB (n + 5), pB (n + 10)]
theorem c120y {d lim b m : Nat} {k : Int} {h H' : Heap} {S : List Int} {L : List (Option Blk)} {rw_ : Bool} (hs : S.length ≤ 1000) (e4 : L[4]? = some (some ⟨[i64 m], true⟩)) (e7 : L[7]? = some (some ⟨[yieldVal (h.length + 6)], true⟩)) (e9 : L[9]? = some (some ⟨[vS (h.length + b) m], true⟩))
    (eb : L[b]? = some (some ⟨cI S, rw_⟩)) (hm : m = S.length) (hr : EProg.roundOf E (E.call (d + 4)) lim (h.length + 6) [vS (h.length + L.length) m] (h.freeze ++ (L ++ [some ⟨cI S, true⟩])) = some (.bool true, H')) :
    E.call (d + 5) lim 120 (a117 h.length k) (h.freeze ++ L) = some (.bool true, H') := by
  subst hm
  refine call_full fn120 rfl (by simp [ef120]) ?_
  have k118 := fun lim => c121 (d := d + 3) (lim := lim) (h := Heap.freeze (h.freeze ++ L)) (b := h.length + b) (n := S.length) (l := S) (SlI'_own (rw := false) (hget_freeze (k := ⟨cI S, rw_⟩) (by rw [hget_base (by simp), eb]; rfl)) rfl) (by omega)
  simp [ef120, e4, e7, e9, k118, hr]
end Z.U
end Go.Abs
