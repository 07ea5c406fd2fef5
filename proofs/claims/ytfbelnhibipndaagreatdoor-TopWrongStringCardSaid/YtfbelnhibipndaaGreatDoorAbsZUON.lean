/- Explanations: one note alone. -/
import Derived.Test.YtfbelnhibipndaaGreatDoorAbsZUOM
import Derived.Test.YtfbelnhibipndaaGreatDoorAbsWpO
set_option linter.unusedSimpArgs false
set_option linter.unusedVariables false
/- Explanations: one note alone. -/
namespace Go.Abs
namespace Z.U
set_option maxRecDepth 100000
theorem clK_false {l : List P4} {F S : List Int} : ∀ k, clK l F S k = false ↔ ∀ i, i < k → fndI F i = true ∨ hasI S (at4 l i).1 = hasI S (at4 l i).2.1
  | 0 => by simp [clK]
  | k + 1 => by
    rw [clK, Bool.or_eq_false_iff, clK_false k]
    constructor
    · rintro ⟨a, b⟩ i hi
      by_cases z : i < k
      · exact a i z
      · obtain rfl : i = k := by omega
        rcases e : fndI F i with _ | _
        · rw [e] at b
          exact .inr (by simpa using b)
        · exact .inl rfl
    · intro h
      refine ⟨fun i hi => h i (by omega), ?_⟩
      rcases h k (by omega) with z | z
      · rw [z]; rfl
      · rw [z]; simp
theorem exE_0 {l : List P4} {F S : List Int} : exE l F S = 0 ↔ ∀ i, i < l.length → (fndI F i = true → hasI S (at4 l i).1 = true ∨ hasI S (at4 l i).2.1 = true) ∧ (fndI F i = false → hasI S (at4 l i).1 = hasI S (at4 l i).2.1) := by
  unfold exE
  have G : fstE (gapE l F S) l.length 0 = 0 ↔ ∀ i, i < l.length → (fndI F i = true → hasI S (at4 l i).1 = true ∨ hasI S (at4 l i).2.1 = true) := by
    rw [fstE_all _ 0 rfl]
    constructor
    · intro h i hi hf
      have := h i (by omega) hi
      unfold gapE at this
      by_cases z : fndI F i = true ∧ hasI S (at4 l i).1 = false ∧ hasI S (at4 l i).2.1 = false
      · rw [if_pos z] at this; cases this
      · rcases e1 : hasI S (at4 l i).1 with _ | _
        · rcases e2 : hasI S (at4 l i).2.1 with _ | _
          · exact absurd ⟨hf, e1, e2⟩ z
          · exact .inr rfl
        · exact .inl rfl
    · intro h i _ hi
      unfold gapE
      rw [if_neg]
      rintro ⟨a, b, c⟩
      rcases h i hi a with z | z
      · rw [b] at z; cases z
      · rw [c] at z; cases z
  by_cases g : fstE (gapE l F S) l.length 0 = 0
  · rw [if_pos g]
    have g' := G.1 g
    rcases e : clK l F S l.length with _ | _
    · rw [if_neg (by decide)]
      have := (clK_false _).1 e
      refine ⟨fun _ i hi => ⟨g' i hi, fun hf => ?_⟩, fun _ => rfl⟩
      rcases this i hi with z | z
      · rw [hf] at z; cases z
      · exact z
    · rw [if_pos rfl]
      refine ⟨fun h => absurd h (by decide), fun h => ?_⟩
      have : clK l F S l.length = false := (clK_false _).2 fun i hi => by
        rcases z : fndI F i with _ | _
        · exact .inr ((h i hi).2 z)
        · exact .inl rfl
      rw [e] at this; cases this
  · rw [if_neg g]
    exact ⟨fun h => absurd h g, fun h => absurd (G.2 fun i hi => (h i hi).1) g⟩
/-- A note explains alone just where its tests are those that failed. -/
theorem exE_one {l : List P4} {F : List Int} {x : Int} (O : TOk l) : exE l F [x] = 0 ↔ ∀ i, i < l.length → (fndI F i = true ↔ isIn (at4 l i) x = true) := by
  rw [exE_0]
  have hs : ∀ y, hasI [x] y = true ↔ y = x := fun y => by rw [hasI_iff, List.mem_singleton]
  have hi' : ∀ i, isIn (at4 l i) x = true ↔ (at4 l i).1 = x ∨ (at4 l i).2.1 = x := fun i => by simp [isIn]
  constructor
  · intro h i hi
    obtain ⟨a, b⟩ := h i hi
    rw [hi']
    constructor
    · intro hf
      rcases a hf with z | z
      · exact .inl ((hs _).1 z)
      · exact .inr ((hs _).1 z)
    · intro hx
      rcases e : fndI F i with _ | _
      · have c := b e
        obtain ⟨_, _, _, _, lt⟩ := chkX_0 (O.chk i hi)
        rcases hx with y | y
        · have y2 := (hs _).2 y
          rw [c] at y2
          have := (hs _).1 y2
          omega
        · have y2 := (hs _).2 y
          rw [← c] at y2
          have := (hs _).1 y2
          omega
      · rfl
  · intro h i hi
    have c := h i hi
    rw [hi'] at c
    refine ⟨fun hf => ?_, fun hf => ?_⟩
    · rcases c.1 hf with z | z
      · exact .inl ((hs _).2 z)
      · exact .inr ((hs _).2 z)
    · have n : ¬ ((at4 l i).1 = x ∨ (at4 l i).2.1 = x) := fun z => by rw [c.2 z] at hf; cases hf
      rw [not_or] at n
      rcases e1 : hasI [x] (at4 l i).1 with _ | _
      · rcases e2 : hasI [x] (at4 l i).2.1 with _ | _
        · rfl
        · exact absurd ((hs _).1 e2) n.2
      · exact absurd ((hs _).1 e1) n.1
end Z.U
end Go.Abs
/- Explanations: no two notes alike. -/
namespace Go.Abs
namespace Z.U
set_option maxRecDepth 100000
theorem tw2_none {f : Int → List Int} {N : List Int} {i : Nat} : ∀ (m k : Nat), N.length - k = m → tw2 f N i k = none → ∀ j, k ≤ j → j < N.length → f (gI N i) ≠ f (gI N j)
  | 0, k, hm, _, j, h1, h2 => by omega
  | m + 1, k, hm, h, j, h1, h2 => by
    rw [tw2_lt (by omega)] at h
    by_cases z : f (gI N i) = f (gI N k)
    · rw [if_pos z] at h; cases h
    · rw [if_neg z] at h
      rcases Nat.lt_or_eq_of_le h1 with y | y
      · exact tw2_none m (k + 1) (by omega) h j y h2
      · rw [← y]; exact z
theorem tw1_none {f : Int → List Int} {N : List Int} : ∀ (m i : Nat), N.length - i = m → tw1 f N i = none → ∀ a b, i ≤ a → a < b → b < N.length → f (gI N a) ≠ f (gI N b)
  | 0, i, hm, _, a, b, h1, h2, h3 => by omega
  | m + 1, i, hm, h, a, b, h1, h2, h3 => by
    rw [tw1_lt (by omega)] at h
    rcases e : tw2 f N i (i + 1) with _ | p
    · rw [e] at h
      rcases Nat.lt_or_eq_of_le h1 with y | y
      · exact tw1_none m (i + 1) (by omega) h a b y h2 h3
      · subst y; exact tw2_none _ (i + 1) rfl e b h2 h3
    · rw [e] at h; cases h
/-- Where strings are singled out, a note's tests tell it. -/
theorem sgA_inj {l : List P4} (h : tw1 (sgA l) (ntD l) 0 = none) {x y : Int} (hx : x ∈ ntD l) (hy : y ∈ ntD l) (e : sgA l x = sgA l y) : x = y := by
  obtain ⟨i, hi, rfl⟩ := List.getElem_of_mem hx
  obtain ⟨j, hj, rfl⟩ := List.getElem_of_mem hy
  rcases Nat.lt_trichotomy i j with z | z | z
  · have := tw1_none _ 0 rfl h i j (by omega) z hj
    rw [gI_eq hi, gI_eq hj] at this
    exact absurd e this
  · subst z; rfl
  · have := tw1_none _ 0 rfl h j i (by omega) z hi
    rw [gI_eq hi, gI_eq hj] at this
    exact absurd e.symm this
end Z.U
end Go.Abs
/- Explanations: suspects. -/
namespace Go.Abs
namespace Z.U
set_option maxRecDepth 100000
set_option maxHeartbeats 0
set_option linter.unusedSimpArgs false
def suK (l : List P4) (F N : List Int) : Nat → List Int
  | 0 => []
  | k + 1 => if exE l F [gI N k] = 0 then suK l F N k ++ [gI N k] else suK l F N k
theorem suK_len (l : List P4) (F N : List Int) : ∀ k, (suK l F N k).length ≤ k
  | 0 => Nat.le_refl _
  | k + 1 => by
    have := suK_len l F N k
    unfold suK
    split
    · rw [List.length_append]; simp; omega
    · omega
def suA (l : List P4) (F : List Int) : List Int := suK l F (ntD l) (ntD l).length
theorem c39 {d lim : Nat} {h : Heap} {v w : Value} {l : List P4} {F : List Int} (s : Sl4 h v l) (t : SlI' h w F) (hf : F.length ≤ 1000) (hl : l.length ≤ 12) (e0 : cfE l F = 0) (l0 : l.length ≠ 0) :
    E.call (d + 9) lim 39 [v, w] h = some (.tuple #[lV h.length (suA l F), i64 0], h ++ lB (suA l F)) := by
  have r := s.rules2
  have r' := t.rules2
  obtain ⟨O, hr, AF⟩ := cfE_0 e0
  have k91 := fun lim => c72 (d := d + 3) (lim := lim) (Sl_freeze.2 s) (Sl_freeze.2 t) hf
  have k85 := fun lim => c73 (D := d) (lim := lim) (Sl_freeze.2 s) hl
  unfold ntV ntB at k85
  simp only [if_neg l0] at k85
  have hZ : ∀ i, i < (ntD l).length → i < (ddz (ntS l)).length ∧ gI (ddz (ntS l)) i = gI (ntD l) i := fun i hi => ddz_at hi
  have nl : (ntD l).length ≤ 24 := by
    have := dd_len (ntS l) (ntS l).length
    have := ntS_len l
    unfold ntD; omega
  have hnil : ¬ l = [] := fun e => l0 (by rw [e]; rfl)
  refine call_pure fn39 rfl (by simp [ef39]) ?_
  unfold suA
  generalize ntD l = N at *
  generalize ddz (ntS l) = Z at *
  have cpz := cI_plain Z
  simp [ef39, k91, e0, k85, hnil]
  refine wpC_loop (fun q st => ∃ (i : Nat) (A : List Int), q = N.length - i ∧ i ≤ N.length ∧ A = suK l F N i ∧ st = if A = [] then ⟨[(0, v), (1, w), (7, .slice none 0 0), (17, vS h.length N.length), (18, i64 (N.length : Int)), (19, i64 (i : Int))], h.freeze ++ [some ⟨cI Z, true⟩]⟩ else ⟨[(0, v), (1, w), (7, vS h.length A.length), (17, vS (h.length + 1) N.length), (18, i64 (N.length : Int)), (19, i64 (i : Int))], h.freeze ++ [some ⟨cI A, true⟩, some ⟨cI Z, true⟩]⟩) N.length (by show N.length < 2 ^ 64; omega) ?_ ?_
  · simp [-collect_own1, cpz, hnil, St.tidy, collect_box, s.own, t.own, r, r']
    exact ⟨0, by omega, by omega, by simp [suK]⟩
  · rintro q hq _ ⟨i, A, rfl, hi, hA, rfl⟩
    have al := suK_len l F N i
    rw [← hA] at al
    by_cases lt : i < N.length
    · have lti : (i : Int) < N.length := by omega
      have w1' := w1 (i := i) (by omega)
      obtain ⟨p1, p2, p3, p4, p5⟩ := ixL (hZ i lt).1
      rw [(hZ i lt).2] at p2 p3
      obtain ⟨x, hx⟩ : ∃ x, x = gI N i := ⟨_, rfl⟩
      have hn : suK l F N (i + 1) = if exE l F [x] = 0 then A ++ [x] else A := by rw [suK, ← hA, ← hx]
      rw [← hx] at p2 p3
      have k92 := fun (L : Heap) (b' lim : Nat) (hg : Heap.get (h.freeze ++ L) b' = some ⟨cI [x], true⟩) => c74 (d := d + 4) (lim := lim) ((Sl_freeze.2 s).app L) ((Sl_freeze.2 t).app L) (SlI'_own (n := 1) hg rfl) AF (by omega) hf (by simp)
      have cx : cI [x] = [i64 x] := rfl
      rw [cx] at k92
      have cpa := cI_plain A
      have cpx := cI_plain (A ++ [x])
      have cn : cI A ++ [i64 x] = cI (A ++ [x]) := by simp [cI]
      have one := one_cI A
      have cl := cI_len A
      by_cases z : A = []
      · subst z
        rw [if_pos rfl]
        by_cases y : exE l F [x] = 0
        · rw [if_pos y] at hn
          simp [-collect_own1, lti, lt, Nat.not_le.2 lt, p1, p2, p3, p4, p5, k92, y, w1', fillL, zeros, E.append, E.added, Nat.add_assoc, cpz, St.tidy, collect_box, s.own, t.own, r, r']
          exact ⟨by decide, N.length - (i + 1), by omega, i + 1, rfl, by omega, by rw [hn, if_neg (by simp)]; simp [cI]⟩
        · rw [if_neg y] at hn
          simp [-collect_own1, lti, lt, Nat.not_le.2 lt, p1, p2, p3, p4, p5, k92, y, w1', fillL, zeros, Nat.add_assoc, cpz, St.tidy, collect_box, s.own, t.own, r, r']
          exact ⟨N.length - (i + 1), by omega, i + 1, rfl, by omega, by rw [hn, if_pos rfl]; simp⟩
      · rw [if_neg z]
        by_cases y : exE l F [x] = 0
        · rw [if_pos y] at hn
          simp [-collect_own1, lti, lt, Nat.not_le.2 lt, p1, p2, p3, p4, p5, k92, y, w1', fillL, zeros, E.append, E.added, Nat.add_assoc, cl, cn, cpx, cpz, St.tidy, collect_box, s.own, t.own, r, r']
          exact ⟨⟨by omega, by unfold maxLen; omega⟩, N.length - (i + 1), by omega, i + 1, rfl, by omega, by rw [hn, if_neg (by simp)]; simp⟩
        · rw [if_neg y] at hn
          simp [-collect_own1, lti, lt, Nat.not_le.2 lt, p1, p2, p3, p4, p5, k92, y, w1', fillL, zeros, Nat.add_assoc, cpa, cpz, St.tidy, collect_box, s.own, t.own, r, r']
          exact ⟨N.length - (i + 1), by omega, i + 1, rfl, by omega, by rw [hn, if_neg z]; simp⟩
    · obtain rfl : i = N.length := by omega
      rw [← hA]
      have cpa := cI_plain A
      by_cases z : A = []
      · rw [if_pos z]; subst z
        simp [lV, lB]
      · rw [if_neg z]
        simp [lV, lB, z, cpa]
end Z.U
end Go.Abs
/- Explanations: the only suspect. -/
namespace Go.Abs
namespace Z.U
set_option maxRecDepth 100000
theorem sg_asc (l : List P4) (n : Int) : ∀ k, (sg l n k).Pairwise (· < ·)
  | 0 => List.Pairwise.nil
  | k + 1 => by
    unfold sg
    split
    · rw [List.pairwise_append]
      refine ⟨sg_asc l n k, by simp, fun x hx y hy => ?_⟩
      obtain ⟨j, hj, e, _⟩ := (mem_sg k).1 hx
      rw [List.mem_singleton.1 hy]; omega
    · exact sg_asc l n k
theorem asc_of {S : List Int} (h : S.Pairwise (· < ·)) : AscL S := fun i j hij hj => by
  rw [gI_eq (by omega), gI_eq hj]
  exact List.pairwise_iff_getElem.1 h i j (by omega) hj hij
theorem sgA_ext {l : List P4} {x y : Int} (h : ∀ i, i < l.length → (isIn (at4 l i) x = true ↔ isIn (at4 l i) y = true)) : sgA l x = sgA l y := by
  have : ∀ k, k ≤ l.length → sg l x k = sg l y k := fun k => by
    induction k with
    | zero => intro _; rfl
    | succ k ih =>
      intro hk
      have e := h k (by omega)
      have i := ih (by omega)
      unfold sg
      by_cases z : isIn (at4 l k) x = true
      · rw [if_pos z, if_pos (e.1 z), i]
      · rw [if_neg z, if_neg (fun y => z (e.2 y)), i]
  exact this _ (Nat.le_refl _)
/-- Where strings are singled out and a note's tests fail, this note alone explains. -/
theorem exE_own {l : List P4} (O : TOk l) (h : tw1 (sgA l) (ntD l) 0 = none) {n x : Int} (hn : n ∈ ntD l) (hx : x ∈ ntD l) : exE l (sgA l n) [x] = 0 ↔ x = n := by
  rw [exE_one O]
  have fi : ∀ i : Nat, i < l.length → (fndI (sgA l n) i = true ↔ isIn (at4 l i) n = true) := fun i hi => by
    rw [fndI_iff (l := sgA l n) (asc_of (sg_asc l n _))]
    unfold sgA
    rw [mem_sg]
    constructor
    · rintro ⟨j, hj, e, y⟩
      have : j = i := by omega
      rw [← this]; exact y
    · intro y; exact ⟨i, hi, rfl, y⟩
  constructor
  · intro z
    refine sgA_inj h hx hn (sgA_ext fun i hi => ?_)
    rw [← z i hi, fi i hi]
  · rintro rfl i hi
    exact fi i hi
theorem suK_one {l : List P4} {F N : List Int} {n : Int} (hN : AscL N) (hx : ∀ x ∈ N, (exE l F [x] = 0 ↔ x = n)) : ∀ k, k ≤ N.length → suK l F N k = if (∃ j, j < k ∧ gI N j = n) then [n] else []
  | 0, _ => by rw [if_neg (by rintro ⟨j, hj, _⟩; omega)]; rfl
  | k + 1, hk => by
    have ih := suK_one hN hx k (by omega)
    have e := hx (gI N k) (gI_mem (by omega))
    unfold suK
    by_cases z : gI N k = n
    · rw [if_pos (e.2 z), ih, if_neg, if_pos ⟨k, by omega, z⟩, z]; rfl
      rintro ⟨j, hj, y⟩
      have := hN j k hj (by omega)
      omega
    · rw [if_neg (fun y => z (e.1 y)), ih]
      by_cases w : ∃ j, j < k ∧ gI N j = n
      · rw [if_pos w, if_pos]
        obtain ⟨j, hj, y⟩ := w
        exact ⟨j, by omega, y⟩
      · rw [if_neg w, if_neg]
        rintro ⟨j, hj, y⟩
        by_cases v : j < k
        · exact w ⟨j, v, y⟩
        · obtain rfl : j = k := by omega
          exact z y
/-- The only suspect. -/
theorem suA_one {l : List P4} (O : TOk l) (h : tw1 (sgA l) (ntD l) 0 = none) {n : Int} (hn : n ∈ ntD l) : suA l (sgA l n) = [n] := by
  have A : AscL (ntD l) := asc_of (dd_asc (ntS_asc l) _ (Nat.le_refl _)).1
  unfold suA
  rw [suK_one A (fun x hx => exE_own O h hn hx) _ (Nat.le_refl _), if_pos]
  obtain ⟨i, hi, e⟩ := List.getElem_of_mem hn
  exact ⟨i, hi, by rw [gI_eq hi]; exact e⟩
end Z.U
end Go.Abs
/- Sets of notes: small things. -/
namespace Go.Abs
/-- What a function that keeps all blocks must give. -/
def KFull (rs : List ERes) (v : Value) (h' : Heap) : Ex → St → Prop
  | .exit _, _ => False
  | _, st => (wpV (rs.mapM (ERes.get st)) fun vs => retVal vs = v) ∧ st.h = h'
@[simp ↓] theorem KFull_normal {rs : List ERes} {v : Value} {h' : Heap} {st : St} : KFull rs v h' .normal st = ((wpV (rs.mapM (ERes.get st)) fun vs => retVal vs = v) ∧ st.h = h') := rfl
@[simp ↓] theorem KFull_ret {rs : List ERes} {v : Value} {h' : Heap} {st : St} : KFull rs v h' .ret st = ((wpV (rs.mapM (ERes.get st)) fun vs => retVal vs = v) ∧ st.h = h') := rfl
namespace Z.U
set_option maxRecDepth 100000
set_option maxHeartbeats 0
set_option linter.unusedSimpArgs false
/-- The record of the loop in Least. -/
abbrev rec61 (n : Nat) (st : Int) : Option Blk := some ⟨.int .i64 (40 : Nat) :: .int .i64 (0 : Nat) :: .int .i64 st :: [pB n, pB (n + 1), pB (n + 3)], true⟩
end Z.U
end Go.Abs
/- Sets of one note, one by one. -/
namespace Go.Abs
namespace Z.U
set_option maxRecDepth 100000
set_option maxHeartbeats 0
set_option linter.unusedSimpArgs false
abbrev f117 (n : Nat) : Value := .func (.func 120) #[] #[pB (n + 9), pB (n + 4), pB (n + 7), pB (n + 5), pB (n + 10)]
end Z.U
end Go.Abs
