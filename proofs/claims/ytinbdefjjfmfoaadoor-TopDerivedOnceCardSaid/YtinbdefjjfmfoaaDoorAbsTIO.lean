/- Reversed in place. -/
import Derived.Test.YtinbdefjjfmfoaaDoorAbsTHO
import Derived.Test.YtinbdefjjfmfoaaDoorAbsTHP
import Derived.Test.YtinbdefjjfmfoaaDoorAbsTIN
import Derived.Test.YtinbdefjjfmfoaaDoorAbsTHN
set_option linter.unusedSimpArgs false
set_option linter.unusedVariables false
/- Reversed in place. -/
namespace Go.Abs
namespace T
set_option maxRecDepth 100000
set_option maxHeartbeats 0
/-- Some of the outer numbers are exchanged. -/
def RevI (l r : List Int) (i : Nat) : Prop := r.length = l.length ∧ ∀ k, k < l.length → r[k]? = if k < i ∨ l.length - i ≤ k then l[l.length - 1 - k]? else l[k]?
theorem RevI.zero (l : List Int) : RevI l l 0 := ⟨rfl, fun k hk => by rw [if_neg (by omega)]⟩
theorem RevI.next {l r : List Int} {i : Nat} (h : RevI l r i) (hi : i < l.length - 1 - i) : ∃ a b, r[i]? = some a ∧ r[l.length - 1 - i]? = some b ∧ RevI l ((r.set i b).set (l.length - 1 - i) a) (i + 1) := by
  obtain ⟨h1, h2⟩ := h
  have e1 := h2 i (by omega)
  have e2 := h2 (l.length - 1 - i) (by omega)
  rw [if_neg (by omega)] at e1 e2
  refine ⟨l[i]'(by omega), l[l.length - 1 - i]'(by omega), by rw [e1, List.getElem?_eq_getElem], by rw [e2, List.getElem?_eq_getElem], by simp [h1], fun k hk => ?_⟩
  rw [List.getElem?_set, List.getElem?_set, List.length_set, h1]
  by_cases q1 : l.length - 1 - i = k
  · rw [if_pos q1, if_pos (by omega), if_pos (by omega)]
    have : l.length - 1 - k = i := by omega
    rw [this, List.getElem?_eq_getElem]
  · rw [if_neg q1]
    by_cases q2 : i = k
    · rw [if_pos q2, if_pos (by omega), if_pos (by omega)]
      subst q2
      rw [List.getElem?_eq_getElem]
    · rw [if_neg q2, h2 k hk]
      by_cases q3 : k < i ∨ l.length - i ≤ k
      · rw [if_pos q3, if_pos (by omega)]
      · rw [if_neg q3, if_neg (by omega)]
theorem RevI.done {l r : List Int} {i : Nat} (h : RevI l r i) (hi : ¬ i + 1 < l.length - i) : r = l.reverse := by
  obtain ⟨h1, h2⟩ := h
  apply List.ext_getElem?
  intro k
  by_cases hk : k < l.length
  · rw [h2 k hk, List.getElem?_reverse hk]
    split
    · rfl
    · congr 1; omega
  · rw [List.getElem?_eq_none (by omega), List.getElem?_eq_none (by simp; omega)]
theorem cI_set (l : List Int) (i : Nat) (x : Int) : (cI l).set i (i64 x) = cI (l.set i x) := by simp [cI, List.map_set]
theorem cI_getq {l : List Int} {i : Nat} {x : Int} (h : l[i]? = some x) : (cI l)[i]? = some (i64 x) := by simp [cI, h]
theorem c126 {d lim : Nat} {h : Heap} {b : Nat} {l : List Int} (hb : h.get b = some ⟨cI l, true⟩) (hl : l.length ≤ 1000) (h0 : 0 < l.length) :
    E.call (d + 1) lim 126 [.slice (some ⟨b, 0, none⟩) l.length 1] h = some (.tuple #[], h.put b (some ⟨cI l.reverse, true⟩)) := by
  have hbl := Heap.get_lt hb
  have key : ∃ v h', E.call (d + 1) lim 126 [.slice (some ⟨b, 0, none⟩) l.length 1] h = some (v, h') ∧ v = .tuple #[] ∧ h' = h.put b (some ⟨cI l.reverse, true⟩) := by
    refine call_trunc (Q := fun v h' => v = .tuple #[] ∧ h' = h.put b (some ⟨cI l.reverse, true⟩)) fn126 rfl (by simp [ef126]) ?_
    have wm : IntKind.wrap .i64 ((l.length : Int) - 1) = ((l.length - 1 : Nat) : Int) := by rw [wrap_eq (by omega) (by omega)]; omega
    simp [ef126, wm]
    refine wpC_loop (fun m st => ∃ (i : Nat) (j : Int) (r : List Int), m = l.length - i ∧ i + i ≤ l.length ∧ j = (l.length : Int) - 1 - i ∧ RevI l r i ∧ st = ⟨[(0, .slice (some ⟨b, 0, none⟩) l.length 1), (2, i64 i), (3, i64 j)], h.put b (some ⟨cI r, true⟩)⟩) l.length (by show l.length < 2 ^ 64; omega) ?_ ?_
    · simp [St.tidy, hbl]
      exact ⟨0, by omega, by omega, l, RevI.zero l, ⟨by omega, by omega⟩, (hput_self hb).symm⟩
    · rintro m hm _ ⟨i, j, r, rfl, hi, hj, hr, rfl⟩
      have tk : ∀ y, List.take h.length (h.put b y) = h.put b y := fun y => List.take_of_length_le (by rw [Heap.length_put]; omega)
      by_cases hlt : (i : Int) < j
      · obtain ⟨x, y, ex, ey, nx⟩ := hr.next (by omega)
        have ej : j = ((l.length - 1 - i : Nat) : Int) := by omega
        have gq : ∀ c, Heap.get (h.put b (some ⟨c, true⟩)) b = some ⟨c, true⟩ := fun c => Heap.get_put_eq _ hbl
        have g2 := gq (cI r)
        have ny : noAddr (i64 y) = true := rfl
        have nx' : noAddr (i64 x) = true := rfl
        have ka : i + 1 ≤ l.length := by omega
        have kb : l.length - 1 - i + 1 ≤ l.length := by omega
        have cx := cI_getq ex
        have cy := cI_getq ey
        have w1' := w1 (i := i) (by omega)
        simp only [W] at w1'
        have wj : IntKind.wrap .i64 (j - 1) = (l.length : Int) - 1 - ((i + 1 : Nat) : Int) := by rw [wrap_eq (by omega) (by omega)]; omega
        have rl := hr.1
        have cl : (cI r).length = l.length := by simp [cI, rl]
        have cl2 : (cI (r.set i y)).length = l.length := by simp [cI, rl]
        have ck := fun o => cell_get (o := o) g2
        have i1 : (i : Int) < l.length := by omega
        have j0 : 0 ≤ j := by omega
        have j1 : j < l.length := by omega
        have jt : j.toNat = l.length - 1 - i := by omega
        simp [hlt, St.tidy, hbl, g2, ck, cx, cy, i1, j0, j1, jt, cl, cl2, gq, ny, nx', ka, kb, w1', wj, hput_put, cI_set, tk]
        exact ⟨l.length - (i + 1), by omega, i + 1, by omega, by omega, _, nx, by omega, rfl⟩
      · have e := hr.done (by omega)
        subst e
        simp [hlt, tk]
  obtain ⟨v, h', e, rfl, rfl⟩ := key
  exact e
end T
end Go.Abs
/- The way from the fork to a note: plain law. -/
namespace Go.Abs
namespace T
set_option maxRecDepth 100000
set_option maxHeartbeats 0
/-- The first step, among some, that tunes a note. -/
def fiN (l : List X2) (k : Nat) (x : Int) : Nat := (l.take k).findIdx fun y => decide (y.2 = x)
theorem fiN_le (l : List X2) (k : Nat) (x : Int) : fiN l k x ≤ k := by
  unfold fiN
  have := List.findIdx_le_length (p := fun y : X2 => decide (y.2 = x)) (xs := l.take k)
  rw [List.length_take] at this; omega
theorem fiN_hit {l : List X2} {k : Nat} {x : Int} (hk : k ≤ l.length) (h : fiN l k x < k) : (atY l (fiN l k x)).2 = x := by
  have hl : fiN l k x < (l.take k).length := by rw [List.length_take]; omega
  have := List.findIdx_getElem (xs := l.take k) (p := fun y : X2 => decide (y.2 = x)) (w := hl)
  simp only [decide_eq_true_eq] at this
  have e : (l.take k)[fiN l k x]'hl = atY l (fiN l k x) := by rw [List.getElem_take]; exact atY_get (by omega)
  unfold fiN at e
  rw [e] at this; exact this
theorem fiN_miss {l : List X2} {k : Nat} {x : Int} (hk : k ≤ l.length) {j : Nat} (h : j < fiN l k x) : (atY l j).2 ≠ x := by
  have hle := fiN_le l k x
  have := List.not_of_lt_findIdx (xs := l.take k) (p := fun y : X2 => decide (y.2 = x)) h
  have e : (l.take k)[j]'(by rw [List.length_take]; omega) = atY l j := by rw [List.getElem_take]; exact atY_get (by omega)
  rw [e] at this
  simpa using this
theorem fiN_eq {l : List X2} {k i : Nat} {x : Int} (hk : k ≤ l.length) (hi : i < k) (he : (atY l i).2 = x) (hm : ∀ j, j < i → (atY l j).2 ≠ x) : fiN l k x = i := by
  have hle := fiN_le l k x
  rcases Nat.lt_trichotomy (fiN l k x) i with z | z | z
  · exact absurd (fiN_hit hk (by omega)) (hm _ z)
  · exact z
  · exact absurd he (fiN_miss hk z)
/-- The notes on the way from the fork to a note, by the first steps. -/
def chn (l : List X2) (k : Nat) (x : Int) : List Int := if x = 48 then [48] else if fiN l k x < k then chn l (fiN l k x) (atY l (fiN l k x)).1 ++ [x] else []
termination_by k
theorem chn48 (l : List X2) (k : Nat) : chn l k 48 = [48] := by unfold chn; rfl
theorem chn_hit {l : List X2} {k : Nat} {x : Int} (h0 : x ≠ 48) (h : fiN l k x < k) : chn l k x = chn l (fiN l k x) (atY l (fiN l k x)).1 ++ [x] := by
  conv => lhs; unfold chn
  rw [if_neg h0, if_pos h]
theorem chn_none {l : List X2} {k : Nat} {x : Int} (h0 : x ≠ 48) (h : ¬ fiN l k x < k) : chn l k x = [] := by
  unfold chn; rw [if_neg h0, if_neg h]
/-- What an order that is followed without a fault has. -/
structure Good (l : List X2) : Prop where
  n : l.length ≤ 100
  /-- Each step begins at a note that is tuned. -/
  fr : ∀ i, i < l.length → (atY l i).1 = 48 ∨ ∃ j, j < i ∧ (atY l j).2 = (atY l i).1
  /-- No note is tuned twice. -/
  to : ∀ i, i < l.length → (atY l i).2 ≠ 48 ∧ ∀ j, j < i → (atY l j).2 ≠ (atY l i).2
  w : ∀ i, i < l.length → (0 ≤ (atY l i).1 ∧ (atY l i).1 ≤ 87) ∧ 0 ≤ (atY l i).2 ∧ (atY l i).2 ≤ 87
def swp (l : List X2) : List X2 := l.map fun y => (y.2, y.1)
theorem fol_ok : ∀ (r m : List X2), (fol 0 87 r m).1 = 0 → (fol 0 87 r m).2 = m ++ swp r ∧ (∀ i, i < r.length → mLook (m ++ swp (r.take i)) (atY r i).1 ≠ none ∧ mLook (m ++ swp (r.take i)) (atY r i).2 = none ∧
    (0 ≤ (atY r i).1 ∧ (atY r i).1 ≤ 87) ∧ 0 ≤ (atY r i).2 ∧ (atY r i).2 ≤ 87)
  | [], m, _ => ⟨by simp [fol, swp], fun i hi => absurd hi (by simp)⟩
  | x :: r, m, h => by
    simp only [fol] at h ⊢
    split at h
    · rename_i w
      rw [if_pos w]
      split at h
      · omega
      · rename_i a
        rw [if_neg a]
        split at h
        · omega
        · rename_i b
          rw [if_neg b]
          split at h
          · omega
          · rename_i c
            rw [if_neg c]
            obtain ⟨e, k⟩ := fol_ok r _ h
            refine ⟨by rw [e]; simp [swp], fun i hi => ?_⟩
            rcases i with _ | i
            · have e0 : atY (x :: r) 0 = x := rfl
              rw [e0]
              simp only [List.take_zero, swp, List.map_nil, List.append_nil]
              refine ⟨a, by simpa using b, ?_⟩
              obtain ⟨w1, w2⟩ := w
              simp [within] at w1 w2
              omega
            · have e1 : atY (x :: r) (i + 1) = atY r i := by unfold atY; simp
              rw [e1]
              have := k i (by simpa using hi)
              have e2 : m ++ swp ((x :: r).take (i + 1)) = m ++ [(x.2, x.1)] ++ swp (r.take i) := by simp [swp]
              rw [e2]; exact this
    · omega
theorem swp_keys (l : List X2) : (swp l).map (·.1) = l.map (·.2) := by simp [swp]
theorem mem_take {l : List X2} {i : Nat} {x : Int} (hi : i ≤ l.length) : x ∈ (l.take i).map (·.2) ↔ ∃ j, j < i ∧ (atY l j).2 = x := by
  constructor
  · intro h
    obtain ⟨y, hy, e⟩ := List.mem_map.1 h
    obtain ⟨j, hj, e2⟩ := List.getElem_of_mem hy
    rw [List.length_take] at hj
    refine ⟨j, by omega, ?_⟩
    rw [List.getElem_take, atY_get (by omega)] at e2
    rw [e2]; exact e
  · rintro ⟨j, hj, e⟩
    refine List.mem_map.2 ⟨atY l j, ?_, e⟩
    have : (l.take i)[j]'(by rw [List.length_take]; omega) = atY l j := by rw [List.getElem_take]; exact atY_get (by omega)
    rw [← this]; exact List.getElem_mem _
theorem folR_good {l : List X2} (h : (folR 0 87 l).1 = 0) : Good l ∧ (folR 0 87 l).2 = (48, 48) :: swp l := by
  unfold folR at h ⊢
  split at h
  · simp at h
  · rename_i q
    rw [if_neg q]
    obtain ⟨e, k⟩ := fol_ok l _ h
    refine ⟨⟨by omega, fun i hi => ?_, fun i hi => ?_, fun i hi => (k i hi).2.2⟩, by rw [e]; rfl⟩
    · have := (k i hi).1
      have hm : (atY l i).1 ∈ (([(48, 48)] : List X2) ++ swp (l.take i)).map (fun y => y.1) := Decidable.byContradiction fun z => this (mLook_keys.2 z)
      rw [List.map_append, swp_keys, List.mem_append] at hm
      rcases hm with hm | hm
      · left; simpa using hm
      · right; exact (mem_take (by omega)).1 hm
    · have := mLook_keys.1 (k i hi).2.1
      rw [List.map_append, swp_keys, List.mem_append] at this
      refine ⟨fun z => this (.inl (by simp [z])), fun j hj z => this (.inr ((mem_take (by omega)).2 ⟨j, hj, z⟩))⟩
/-- What the map says of a note. -/
theorem look_swp {l : List X2} (g : Good l) {x : Int} : (mLook ((48, 48) :: swp l) x = none ↔ x ≠ 48 ∧ ¬ fiN l l.length x < l.length) ∧
    (x ≠ 48 → ∀ f, mLook ((48, 48) :: swp l) x = some f → fiN l l.length x < l.length ∧ f = (atY l (fiN l l.length x)).1) := by
  have hk : mLook ((48, 48) :: swp l) x = none ↔ ¬ x ∈ (48 : Int) :: l.map (·.2) := by
    rw [mLook_keys]; simp [swp]
  have hm : x ∈ l.map (·.2) ↔ fiN l l.length x < l.length := by
    have := mem_take (l := l) (x := x) (Nat.le_refl l.length)
    rw [List.take_length] at this
    rw [this]
    constructor
    · rintro ⟨j, hj, e⟩
      rcases Nat.lt_or_ge (fiN l l.length x) l.length with z | z
      · exact z
      · exact absurd e (fiN_miss (Nat.le_refl _) (by omega))
    · intro h
      exact ⟨_, h, fiN_hit (Nat.le_refl _) h⟩
  refine ⟨by rw [hk, List.mem_cons, hm]; exact ⟨fun h => ⟨fun z => h (.inl z), fun z => h (.inr z)⟩, fun h z => z.elim h.1 h.2⟩, fun h0 f hf => ?_⟩
  have hf' : mLook (swp l) x = some f := by
    have : mLook ((48, 48) :: swp l) x = if x = 48 then some 48 else mLook (swp l) x := rfl
    rw [this, if_neg h0] at hf; exact hf
  have hmem := mLook_mem hf'
  obtain ⟨y, hy, e⟩ := List.mem_map.1 hmem
  obtain ⟨i, hi, e2⟩ := List.getElem_of_mem hy
  rw [atY_get hi] at e2
  have ex : (atY l i).2 = x := by rw [e2]; exact congrArg Prod.fst e
  have ef : (atY l i).1 = f := by rw [e2]; exact congrArg Prod.snd e
  have := fiN_eq (Nat.le_refl _) hi ex (fun j hj => by rw [← ex]; exact (g.to i hi).2 j hj)
  rw [this]
  exact ⟨hi, ef.symm⟩
/-- A prefix in which the note is tuned says the same. -/
theorem chn_pre {l : List X2} (g : Good l) : ∀ (k : Nat) (x : Int), k ≤ l.length → (x = 48 ∨ fiN l k x < k) → chn l k x = chn l l.length x := by
  intro k x hk h
  by_cases h0 : x = 48
  · subst h0; rw [chn48, chn48]
  · have h1 := h.resolve_left h0
    have e := fiN_hit hk h1
    have m : fiN l l.length x = fiN l k x := fiN_eq (Nat.le_refl _) (by omega) e (fun j hj => fiN_miss hk hj)
    rw [chn_hit h0 h1, chn_hit h0 (by omega), m]
theorem chn_step {l : List X2} (g : Good l) {x f : Int} (h0 : x ≠ 48) (hf : mLook ((48, 48) :: swp l) x = some f) :
    chn l l.length x = chn l l.length f ++ [x] ∧ mLook ((48, 48) :: swp l) f ≠ none ∧ (0 ≤ f ∧ f ≤ 87) := by
  obtain ⟨h1, h2⟩ := (look_swp g).2 h0 f hf
  have hfi := g.fr _ h1
  have hpre : f = 48 ∨ fiN l (fiN l l.length x) f < fiN l l.length x := by
    rcases hfi with z | ⟨j, hj, e⟩
    · exact .inl (by rw [h2]; exact z)
    · right
      rcases Nat.lt_or_ge (fiN l (fiN l l.length x) f) (fiN l l.length x) with z | z
      · exact z
      · exact absurd (by rw [h2]; exact e) (fiN_miss (l := l) (k := fiN l l.length x) (x := f) (by omega) (j := j) (by omega))
  have w := (g.w _ h1).1
  refine ⟨?_, ?_, by rw [h2]; exact w⟩
  · rw [chn_hit h0 h1, ← h2, chn_pre g _ f (by omega) hpre]
  · rw [ne_eq, (look_swp g).1]
    rintro ⟨z1, z2⟩
    rcases hpre with z | z
    · exact z1 z
    · have e := fiN_hit (by omega) z
      exact z2 (by rw [fiN_eq (Nat.le_refl _) (show fiN l (fiN l l.length x) f < l.length by omega) e (fun j hj => fiN_miss (by omega) hj)]; omega)
theorem chn_len (l : List X2) : ∀ (k : Nat) (x : Int), (chn l k x).length ≤ k + 1 := by
  intro k
  induction k using Nat.strongRecOn with
  | _ k ih =>
    intro x
    by_cases h0 : x = 48
    · subst h0; rw [chn48]; simp
    · by_cases h1 : fiN l k x < k
      · rw [chn_hit h0 h1, List.length_append]
        have := ih _ h1 (atY l (fiN l k x)).1
        simp; omega
      · rw [chn_none h0 h1]; simp
end T
end Go.Abs
/- Derived: the program's. -/
namespace Go.Abs
namespace T
set_option maxRecDepth 100000
set_option maxHeartbeats 0
theorem chn_all {l : List X2} (g : Good l) : ∀ (k : Nat) (x : Int), k ≤ l.length → (0 ≤ x ∧ x ≤ 87) → ∀ y ∈ chn l k x, 0 ≤ y ∧ y ≤ 87 := by
  intro k
  induction k using Nat.strongRecOn with
  | _ k ih =>
    intro x hk hx y hy
    by_cases h0 : x = 48
    · subst h0; rw [chn48] at hy; simp at hy; omega
    · by_cases h1 : fiN l k x < k
      · rw [chn_hit h0 h1, List.mem_append] at hy
        rcases hy with hy | hy
        · exact ih _ h1 _ (by omega) (g.w _ (by omega)).1 y hy
        · simp at hy; rw [hy]; exact hx
      · rw [chn_none h0 h1] at hy; simp at hy
/-- The way is there: it begins at the fork, and ends at the note. -/
theorem chn_way {l : List X2} (g : Good l) : ∀ (N : Nat) (x : Int), (chn l l.length x).length ≤ N → mLook ((48, 48) :: swp l) x ≠ none → ∃ r, chn l l.length x = r ++ [x] ∧ (chn l l.length x)[0]? = some 48
  | 0, x, h, hm => by
    by_cases h0 : x = 48
    · subst h0; rw [chn48] at h; simp at h
    · rcases e : mLook ((48, 48) :: swp l) x with _ | f
      · exact absurd e hm
      · rw [(chn_step g h0 e).1] at h; simp at h
  | N + 1, x, h, hm => by
    by_cases h0 : x = 48
    · subst h0; rw [chn48]; exact ⟨[], rfl, rfl⟩
    · rcases e : mLook ((48, 48) :: swp l) x with _ | f
      · exact absurd e hm
      · obtain ⟨s1, s2, _⟩ := chn_step g h0 e
        rw [s1] at h ⊢
        rw [List.length_append] at h
        obtain ⟨r, e1, e2⟩ := chn_way g N f (by simp at h; omega) s2
        refine ⟨chn l l.length f, rfl, ?_⟩
        rw [List.getElem?_append_left]
        · exact e2
        · rw [e1]; simp
def errD (nm : ByteArray) (P S : Nat → Int) (l : List X2) (x : Int) : Int :=
  if chkT nm P S ≠ 0 then chkT nm P S else if (folR 0 87 l).1 ≠ 0 then (folR 0 87 l).1 else if isNote x = true then (if mLook (folR 0 87 l).2 x = none then 6 else 0) else 2
theorem c78e {d lim : Nat} {h : Heap} {C : List Value} {nm : ByteArray} {P S : Nat → Int} {v : Value} {l : List X2} {x : Int} (t : Tm C nm P S) (hs : nm.size ≤ 1000) (s : SlY h v l) (he : errD nm P S l x ≠ 0) :
    E.call (d + 6) lim 78 [.agg C.toArray, v, i64 x] h = some (.tuple #[pt 0 0 0 0, .slice none 0 0, i64 (errD nm P S l x)], h) := by
  have s2 : ∀ L, SlY (h.freeze ++ L) v l := fun L => (Sl_freeze.2 s).app L
  refine call1 fn78 rfl (by simp [ef78]) ?_
  by_cases h0 : chkT nm P S = 0
  · have k84 := fun lim L => c84 (d := d) (lim := lim) (h := L) t hs SlBo_nil (by simp) h0 (by simp)
    have k125 := fun lim L => c125 (d := d + 2) (lim := lim) (s2 L) (lo := 0) (hi := 87) (by omega) (by omega)
    by_cases h1 : (folR 0 87 l).1 = 0
    · by_cases h2 : isNote x = true
      · have hm : mLook (folR 0 87 l).2 x = none := by
          unfold errD at he; rw [if_neg (by simpa using h0), if_neg (by simpa using h1), if_pos h2] at he
          by_cases q : mLook (folR 0 87 l).2 x = none
          · exact q
          · rw [if_neg q] at he; exact absurd rfl he
        have e : errD nm P S l x = 6 := by unfold errD; rw [if_neg (by simpa using h0), if_neg (by simpa using h1), if_pos h2, if_pos hm]
        have mg := m_get (folR 0 87 l).2 x
        rw [hm] at mg
        rw [e]
        simp only [folV, folB, if_pos h1, h1] at k125
        generalize (folR 0 87 l).2 = M at *
        simp [ef78, t.len, t.take, k84, k125, c85, h2, mg]
      · simp only [Bool.not_eq_true] at h2
        have e : errD nm P S l x = 2 := by unfold errD; rw [if_neg (by simpa using h0), if_neg (by simpa using h1), if_neg (by simp [h2])]
        rw [e]
        simp only [folV, folB, if_pos h1, h1] at k125
        simp [ef78, t.len, t.take, k84, k125, c85, h2]
    · have e : errD nm P S l x = (folR 0 87 l).1 := by unfold errD; rw [if_neg (by simpa using h0), if_pos h1]
      rw [e]
      simp only [folV, folB, if_neg h1] at k125
      simp [ef78, t.len, t.take, k84, k125, h1]
  · have e : errD nm P S l x = chkT nm P S := by unfold errD; rw [if_pos h0]
    rw [e]
    have k84 := fun lim hh v => c84b (d := d) (lim := lim) (h := hh) (v := v) t hs h0
    simp [ef78, t.len, t.take, k84, h0]
/-- The numbers of the way. -/
def wayN (l : List X2) (x : Int) (i : Nat) : Nat := ((chn l l.length x)[i]?.getD 0).toNat
theorem wayN_at {l : List X2} (g : Good l) {x : Int} (hx : 0 ≤ x ∧ x ≤ 87) {i : Nat} (hi : i < (chn l l.length x).length) : (chn l l.length x)[i]? = some ((wayN l x i : Nat) : Int) ∧ wayN l x i ≤ 87 := by
  have e := List.getElem?_eq_getElem hi
  have b := chn_all g l.length x (Nat.le_refl _) hx _ (List.getElem_mem hi)
  unfold wayN
  rw [e]
  simp only [Option.getD_some, Option.some.injEq]
  omega
theorem intX_self {P S : Nat → Int} (o : Okt P S) {n : Nat} (hn : n ≤ 87) : intX P S n n = (0, 0, 0) := by
  rw [intX_eq o (by omega) (by omega)]
  simp only [intZ, addZ, Prod.mk.injEq]; omega
theorem c78 {d lim : Nat} {h : Heap} {C : List Value} {nm : ByteArray} {P S : Nat → Int} {v : Value} {l : List X2} {x : Int} (t : Tm C nm P S) (hs : nm.size ≤ 1000) (s : SlY h v l) (he : errD nm P S l x = 0) :
    E.call (d + 6) lim 78 [.agg C.toArray, v, i64 x] h = some (.tuple #[pit (intX P S 48 x.toNat), .slice (some ⟨h.length, 0, none⟩) (chn l l.length x).length 1, i64 0], h ++ [some ⟨cI (chn l l.length x), true⟩]) := by
  have s2 : ∀ L, SlY (h.freeze ++ L) v l := fun L => (Sl_freeze.2 s).app L
  unfold errD at he
  by_cases h0 : chkT nm P S = 0
  case neg => rw [if_pos h0] at he; exact absurd he h0
  rw [if_neg (by simpa using h0)] at he
  by_cases h1 : (folR 0 87 l).1 = 0
  case neg => rw [if_pos h1] at he; exact absurd he h1
  rw [if_neg (by simpa using h1)] at he
  by_cases h2 : isNote x = true
  case neg => rw [if_neg h2] at he; omega
  rw [if_pos h2] at he
  obtain ⟨g, em⟩ := folR_good h1
  rw [em] at he
  have hm : mLook ((48, 48) :: swp l) x ≠ none := fun z => by rw [if_pos z] at he; omega
  have hx : 0 ≤ x ∧ x ≤ 87 := by simpa [isNote, within] using h2
  obtain ⟨o, _⟩ := okt h0
  have k84 := fun lim L => c84 (d := d) (lim := lim) (h := L) t hs SlBo_nil (by simp) h0 (by simp)
  have k125 := fun lim L => c125 (d := d + 2) (lim := lim) (s2 L) (lo := 0) (hi := 87) (by omega) (by omega)
  simp only [folV, folB, if_pos h1, h1, em] at k125
  have kp := Cir.plain (K := circK P S) (P := P) (S := S) rfl
  have mno := m_no ((48, 48) :: swp l)
  have mg := m_get ((48, 48) :: swp l)
  have cl := chn_len l l.length x
  have gn := g.n
  refine call_pure fn78 rfl (by simp [ef78]) ?_
  rcases em0 : mLook ((48, 48) :: swp l) x with _ | f0
  · exact absurd em0 hm
  have mg0 := mg x
  rw [em0] at mg0
  simp [ef78, t.len, t.take, k84, k125, c85, h2, mg0]
  refine wpC_loop (fun q st => ∃ (y : Int) (pre Ws : List Int), q = pre.length ∧ chn l l.length x = pre ++ Ws.reverse ∧ chn l l.length y = pre ++ [y] ∧ mLook ((48, 48) :: swp l) y ≠ none ∧ (0 ≤ y ∧ y ≤ 87) ∧
    st = ⟨[(2, i64 y), (6, .pointer (some ⟨h.length, 0, none⟩)), (9, .pointer (some ⟨h.length + 1, 0, none⟩)), (11, .map (some (h.length + 2))), (14, .slice (some ⟨h.length + 3, 0, none⟩) Ws.length 1)],
      h.freeze ++ [some ⟨[i64 0, i64 0, i64 0, i64 0], true⟩, some ⟨circK P S, true⟩, some ⟨mV ((48, 48) :: swp l), true⟩, some ⟨cI Ws, true⟩]⟩) ((chn l l.length x).length - 1) (by show (chn l l.length x).length - 1 < 2 ^ 64; omega) ?_ ?_
  · simp [St.tidy, kp, mno]
    obtain ⟨r, er, _⟩ := chn_way g _ x (Nat.le_refl _) hm
    refine ⟨x, r, ?_, [x], ?_, er, hm, hx, ⟨rfl, rfl⟩, rfl⟩
    · rw [er]; simp
    · rw [er]; simp
  · rintro q hq _ ⟨y, pre, Ws, rfl, e1, e2, hy, hyb, rfl⟩
    have wle : Ws.length ≤ 101 := by
      have : (chn l l.length x).length = pre.length + Ws.length := by rw [e1]; simp
      omega
    have bl : (cI Ws).length = Ws.length := by simp [cI]
    have bp := cI_plain Ws
    by_cases hne : y = 48
    · subst hne
      rw [chn48] at e2
      have pe : pre = [] := by
        rcases pre with _ | ⟨a, r⟩
        · rfl
        · simp at e2
      subst pe
      rw [List.nil_append] at e1
      have wl : Ws.length = (chn l l.length x).length := by rw [e1]; simp
      obtain ⟨r, er, ez⟩ := chn_way g _ x (Nat.le_refl _) hm
      have w0 : 0 < Ws.length := by rw [wl, er]; simp
      have gw : Heap.get (h.freeze ++ [some ⟨[i64 0, i64 0, i64 0, i64 0], true⟩, some ⟨circK P S, true⟩, some ⟨mV ((48, 48) :: swp l), true⟩, some ⟨cI Ws, true⟩]) (h.length + 3) = some ⟨cI Ws, true⟩ := by rw [hget_base (by simp)]; rfl
      have k126 := fun lim => c126 (d := d + 4) (lim := lim) gw (by omega) w0
      rw [hput_base (by simp), ← e1] at k126
      simp at k126
      have hn := wl
      generalize hN : Ws.length = N at *
      have lst : wayN l x (N - 1) = x.toNat := by
        unfold wayN
        have : (chn l l.length x)[N - 1]? = some x := by
          rw [wl, er]; simp
        rw [this]; rfl
      have wa := fun i (hi : i < N) => wayN_at g hx (i := i) (by omega)
      have w00 : wayN l x 0 = 48 := by unfold wayN; rw [ez]; rfl
      have clen : (cI (chn l l.length x)).length = N := by simp [cI, hn]
      have cpl := cI_plain (chn l l.length x)
      generalize chn l l.length x = Cx at *
      simp [k126]
      refine wpC_loop (fun q st => ∃ (i : Nat) (a b c e : Int), q = N - i ∧ 1 ≤ i ∧ i ≤ N ∧ PitIs (intX P S 48 (wayN l x (i - 1))) a b c e ∧
        st = ⟨[(6, .pointer (some ⟨h.length, 0, none⟩)), (9, .pointer (some ⟨h.length + 1, 0, none⟩)), (14, .slice (some ⟨h.length + 2, 0, none⟩) N 1), (15, .pointer (some ⟨h.length + 3, 0, none⟩)), (16, i64 i)],
          h.freeze ++ [some ⟨[i64 0, i64 0, i64 0, i64 0], true⟩, some ⟨circK P S, true⟩, some ⟨cI Cx, true⟩, some ⟨[i64 a, i64 b, i64 c, i64 e], true⟩]⟩) (N - 1) (by show N - 1 < 2 ^ 64; omega) ?_ ?_
      · simp [St.tidy, kp, cpl]
        exact ⟨1, by omega, by omega, by omega, 0, 0, 0, 1, by unfold PitIs; show pit (intX P S 48 (wayN l x 0)) = _; rw [w00, intX_self o (n := 48) (by omega), pit_one], rfl, rfl, rfl, rfl, rfl⟩
      · rintro q hq _ ⟨i, a, b, c, e, rfl, h1', hi, hp, rfl⟩
        unfold PitIs at hp
        by_cases hlt : i < N
        · have w1' := w1 (i := i) (by omega)
          have wp := wP1 (n := i) (by omega) (by omega)
          simp only [W] at w1'
          obtain ⟨a1, a2⟩ := wa (i - 1) (by omega)
          obtain ⟨b1, b2⟩ := wa i hlt
          have c1 := cI_getq a1
          have c2 := cI_getq b1
          have i1 : (i : Int) < N := by omega
          have i2 : ((i - 1 : Nat) : Int) < N := by omega
          have gk : ∀ A L, Heap.get (Heap.freeze (h.freeze ++ (A :: some ⟨circK P S, true⟩ :: L))) (h.length + 1) = some ⟨circK P S, false⟩ := fun A L => hget_freeze (k := ⟨circK P S, true⟩) (by rw [hget_base (by simp)]; rfl)
          have k86 := fun lim A L => c86 (d := d + 2) (lim := lim) (gk A L) (lo := wayN l x (i - 1)) (hi := wayN l x i) (by omega) (by omega)
          have p1 := (int_ok o (lo := 48) (hi := wayN l x (i - 1)) (by omega) a2).1
          have p2 := (int_ok o (lo := wayN l x (i - 1)) (hi := wayN l x i) a2 b2).1
          have p3 := (int_ok o (lo := 48) (hi := wayN l x i) (by omega) b2).1
          have k87 := fun lim hh => c87 (d := d + 1) (lim := lim) (h := hh) p2
          have jp := fun lim hh => join_pit (d := d + 1) (lim := lim) (h := hh) p1 p2 p3 (int_sum o (by omega) a2 b2)
          rw [hp] at jp
          obtain ⟨u1, u2, u3, u4, hu⟩ := pit_pt (intX P S (wayN l x (i - 1)) (wayN l x i))
          obtain ⟨r1, r2, r3, r4, hr⟩ := pit_pt (intX P S 48 (wayN l x i))
          rw [hu] at k87 jp
          rw [hr] at jp
          have hr' : PitIs (intX P S 48 (wayN l x (i + 1 - 1))) r1 r2 r3 r4 := hr
          clear p1 p2 p3 hu hr
          generalize intX P S (wayN l x (i - 1)) (wayN l x i) = X at *
          obtain ⟨x1, x2, x3⟩ := X
          generalize wayN l x (i - 1) = n1 at *
          generalize hn2 : wayN l x i = n2 at *
          generalize i - 1 = i' at *
          simp [i1, i2, wp, w1', c1, c2, k86, k87, jp, St.tidy, kp, cpl]
          exact ⟨fun _ => ⟨N - (i + 1), by omega, i + 1, by omega, by omega, by omega, r1, r2, r3, r4, hr', by omega, rfl, rfl, rfl, rfl⟩, fun z => absurd z (by omega)⟩
        · obtain rfl : i = N := by omega
          rw [lst] at hp
          rw [hp]
          simp [St.tidy, cpl]
          exact hn
    · rcases em1 : mLook ((48, 48) :: swp l) y with _ | f
      · exact absurd em1 hy
      · obtain ⟨s1, s2', fb⟩ := chn_step g hne em1
        obtain ⟨pre', e3, _⟩ := chn_way g _ f (Nat.le_refl _) s2'
        have ep : pre = pre' ++ [f] := by
          rw [s1, e3] at e2
          exact (List.append_cancel_right e2).symm
        have mg1 := mg y
        rw [em1] at mg1
        have hsn := cI_snoc Ws f
        have bp' := cI_plain (Ws ++ [f])
        simp [hne, mg1, ekI, E.append, E.added, Value.oneCell', maxLen, bl, hsn, bp', St.tidy, kp, mno, Nat.add_assoc]
        exact ⟨⟨by omega, by omega⟩, pre.length - 1, by rw [ep]; simp, f, pre', by rw [ep]; simp, Ws ++ [f], by rw [e1, ep]; simp, e3, s2', fb, ⟨rfl, by simp⟩, rfl⟩
end T
end Go.Abs
/- Chain, Along: the reference's. -/
namespace Go.Abs
namespace T
set_option maxRecDepth 100000
set_option maxHeartbeats 0
def chV (n : Nat) (L : List Int) : Value := if L = [] then .slice none 0 0 else .slice (some ⟨n, 0, none⟩) L.length 1
def chB (L : List Int) : List (Option Blk) := if L = [] then [] else [some ⟨cI L, true⟩]
theorem SlY_pre {h : Heap} {b o k i : Nat} {l : List X2} (s : Sl 2 h (.slice (some ⟨b, o, none⟩) k 2) k (cY (l.take k))) (hi : i ≤ k) (hk : k ≤ l.length) (hb : b < h.length) :
    Sl 2 h (.slice (some ⟨b, o, none⟩) i 2) i (cY (l.take i)) := by
  refine ⟨rfl, by rw [cY_len, List.length_take]; omega, fun _ => rfl, .inr ⟨b, o, i, 2, rfl, hb⟩, fun j hj => ?_⟩
  have := s.cell j (by omega)
  simp only [slB_some, slO_some] at this ⊢
  rw [this]
  have e : cY (l.take k) = cY (l.take i) ++ cY ((l.take k).drop i) := by
    unfold cY cS
    rw [← List.flatMap_append]
    congr 1
    have := List.take_append_drop i (l.take k)
    rw [List.take_take, Nat.min_eq_left hi] at this
    exact this.symm
  rw [e, List.getElem?_append_left (by rw [cY_len, List.length_take]; omega)]
theorem c80 {l : List X2} (hl : l.length ≤ 1000) : ∀ (k : Nat) {d lim : Nat} {h : Heap} {v : Value} {x : Int}, Sl 2 h v k (cY (l.take k)) → k ≤ l.length →
    E.call (d + k + 1) lim 80 [v, i64 x] h = some (chV h.length (chn l k x), h ++ chB (chn l k x)) := by
  intro k
  induction k using Nat.strongRecOn with
  | _ k ih =>
    intro d lim h v x s hk
    have r := s.rules2
    refine call_pure fn80 rfl (by simp [ef80]) ?_
    by_cases h0 : x = 48
    · subst h0
      rw [chn48]
      simp [ef80, chV, chB, cI]
    · simp [ef80, h0]
      refine wpC_loop (fun q st => ∃ i : Nat, q = k - i ∧ i ≤ k ∧ (∀ j, j < i → (atY l j).2 ≠ x) ∧ st = ⟨[(0, v), (1, i64 x), (5, i64 i)], h.freeze⟩) k (by show k < 2 ^ 64; omega) ?_ ?_
      · simp [St.tidy, r]
        exact ⟨0, by omega, by omega, fun j hj => absurd hj (by omega), rfl⟩
      · rintro q hq _ ⟨i, rfl, hi, hb, rfl⟩
        by_cases hlt : i < k
        · have w1' := w1 (i := i) (by omega)
          simp only [W] at w1'
          have h4 : (i : Int) < k := by omega
          have k2 : i * 2 + 1 < k * 2 := by omega
          have k3 : i * 2 < k * 2 := by omega
          have a1 : (cY (l.take k))[i * 2 + 1]? = some (i64 (atY l i).2) := by
            have := cS_get (f := encY) (es := 2) (fun _ => rfl) (l.take k) i 1 (by rw [List.length_take]; omega) (by omega)
            unfold cY; rw [this, List.getElem_take, atY_get (by omega)]; rfl
          have a0 : (cY (l.take k))[i * 2]? = some (i64 (atY l i).1) := by
            have := cS_get (f := encY) (es := 2) (fun _ => rfl) (l.take k) i 0 (by rw [List.length_take]; omega) (by omega)
            rw [Nat.add_zero] at this
            unfold cY; rw [this, List.getElem_take, atY_get (by omega)]; rfl
          by_cases q1 : (atY l i).2 = x
          · have fi : fiN l k x = i := fiN_eq hk hlt q1 hb
            have ec : chn l k x = chn l i (atY l i).1 ++ [x] := by rw [chn_hit h0 (by omega), fi]
            obtain ⟨b, o, rfl⟩ : ∃ b o, v = .slice (some ⟨b, o, none⟩) k 2 := ⟨_, _, s.addr (by omega)⟩
            have hbl := s.lt (by omega)
            simp only [slB_some, slO_some] at r hbl
            have sp := SlY_pre s (i := i) (by omega) hk hbl
            obtain ⟨d', hd⟩ : ∃ d', d + k = d' + i + 1 := ⟨d + k - i - 1, by omega⟩
            have k80 := fun lim => ih i hlt (d := d') (lim := lim) (x := (atY l i).1) (Sl_freeze.2 (Sl_freeze.2 sp)) (by omega)
            rw [← hd] at k80
            rw [ec]
            have cl := chn_len l i (atY l i).1
            have ki : i ≤ k := by omega
            generalize chn l i (atY l i).1 = L at *
            have hsn := cI_snoc L x
            have bp := cI_plain (L ++ [x])
            have bl : (cI L).length = L.length := by simp [cI]
            have le : L.length ≤ 9223372036854775806 := by omega
            have le2 : (L.length + 1) * 8 ≤ 140737488355328 := by omega
            by_cases hL : L = []
            · subst hL
              simp [chV, chB] at k80
              simp [hlt, h4, r, k2, k3, a0, a1, q1, k80, ki, E.bound, Ctx.eval, le, le2, chV, chB, E.append, E.added, Value.oneCell', maxLen, hbl, cI]
            · simp [chV, chB, hL] at k80
              simp [hlt, h4, r, k2, k3, a0, a1, q1, k80, ki, E.bound, Ctx.eval, le, le2, chV, chB, hL, E.append, E.added, Value.oneCell', maxLen, hbl, bl, hsn, bp, Nat.add_assoc]
          · have nx : ∀ j, j < i + 1 → (atY l j).2 ≠ x := fun j hj => by
              by_cases e : j = i
              · rw [e]; exact q1
              · exact hb j (by omega)
            simp [h4, r, k2, k3, a1, q1, w1', St.tidy]
            exact ⟨fun _ => ⟨k - (i + 1), by omega, i + 1, by omega, by omega, nx, by omega⟩, fun z => absurd z (by omega)⟩
        · obtain rfl : i = k := by omega
          have nf : ¬ fiN l i x < i := fun z => hb _ z (fiN_hit hk z)
          rw [chn_none h0 nf]
          simp [r, chV, chB]
theorem c81 {d lim : Nat} {h : Heap} {C : List Value} {nm : ByteArray} {P S : Nat → Int} {b N : Nat} {L : List Int} {f : Nat → Nat} {rw' : Bool} (t : Tm C nm P S) (o : Okt P S) (hb : h.get b = some ⟨cI L, rw'⟩) (hN : N = L.length) (h1 : 1 ≤ N) (h2 : N ≤ 1000)
    (hf : ∀ i, i < N → L[i]? = some ((f i : Nat) : Int) ∧ f i ≤ 87) :
    E.call (d + 6) lim 81 [.agg C.toArray, .slice (some ⟨b, 0, none⟩) N 1] h = some (v3 (intX P S (f 0) (f (N - 1))), h) := by
  have hbl := Heap.get_lt hb
  have hc := fun o => cell_get (o := o) hb
  refine call1 fn81 rfl (by simp [ef81]) ?_
  simp [ef81]
  refine wpC_loop (fun q st => ∃ (i : Nat) (x : X3), q = N - i ∧ 1 ≤ i ∧ i ≤ N ∧ x = intX P S (f 0) (f (i - 1)) ∧ st = ⟨[(1, .slice (some ⟨b, 0, none⟩) N 1), (2, .pointer (some ⟨h.length, 0, none⟩)), (4, .pointer (some ⟨h.length + 1, 0, none⟩)), (5, .pointer (some ⟨h.length + 2, 0, none⟩)), (6, i64 i)],
    h.freeze ++ [some ⟨C, true⟩, some ⟨[i64 0, i64 0, i64 0], true⟩, some ⟨e3 x, true⟩]⟩) (N - 1) (by show N - 1 < 2 ^ 64; omega) ?_ ?_
  · simp [St.tidy, t.plain, hbl]
    have z0 := intX_self o (n := f 0) (hf 0 (by omega)).2
    exact ⟨1, by omega, by omega, by omega, rfl, by show (0 : Int) = (intX P S (f 0) (f 0)).1; rw [z0], by show (0 : Int) = (intX P S (f 0) (f 0)).2.1; rw [z0], by show (0 : Int) = (intX P S (f 0) (f 0)).2.2; rw [z0]⟩
  · rintro q hq _ ⟨i, x, rfl, h1', hi, hx, rfl⟩
    by_cases hlt : i < N
    · have w1' := w1 (i := i) (by omega)
      have wp := wP1 (n := i) (by omega) (by omega)
      simp only [W] at w1'
      obtain ⟨a1, a2⟩ := hf (i - 1) (by omega)
      obtain ⟨b1, b2⟩ := hf i hlt
      obtain ⟨c1, c2⟩ := hf 0 (by omega)
      have d1 := cI_getq a1
      have d2 := cI_getq b1
      have i1 : (i : Int) < N := by omega
      have i2 : ((i - 1 : Nat) : Int) < N := by omega
      have k27 := fun lim hh => c27 (d := d) (lim := lim) (h := hh) (lo := f (i - 1)) (hi := f i) t (by omega) (by omega)
      have hs : plusX x 1 (intX P S (f (i - 1)) (f i)) = intX P S (f 0) (f i) := by
        rw [hx, (plusX_eq (n := 1) (N := 1) (isP_B3 (int_ok o c2 a2).1) (isP_B3 (int_ok o a2 b2).1) (by omega) (by omega) (by omega)).1]
        exact (int_sum o c2 a2 b2).symm
      have k91 := fun lim hh => @c91 (d + 4) lim hh x (intX P S (f (i - 1)) (f i)) 1
      rw [hs] at k91
      obtain ⟨x1, x2, x3⟩ := x
      generalize intX P S (f (i - 1)) (f i) = Y at *
      obtain ⟨y1, y2, y3⟩ := Y
      generalize hZ : intX P S (f 0) (f i) = Z at *
      obtain ⟨z1, z2, z3⟩ := Z
      generalize f (i - 1) = n1 at *
      generalize hfi : f i = n2 at *
      generalize i - 1 = i' at *
      have hz : intX P S (f 0) (f (i + 1 - 1)) = (z1, z2, z3) := by rw [Nat.add_sub_cancel, hfi, hZ]
      simp [i1, i2, wp, w1', hc, d1, d2, k27, k91, t.len, t.take, t.plain, St.tidy, hbl]
      exact ⟨fun _ => ⟨N - (i + 1), by omega, i + 1, by omega, by omega, by omega, by omega, by rw [hz], by rw [hz], by rw [hz]⟩, fun z => absurd z (by omega)⟩
    · obtain rfl : i = N := by omega
      obtain ⟨x1, x2, x3⟩ := x
      rw [← hx]
      simp
end T
end Go.Abs
/- The law TemperDerives. -/
namespace Go.Abs
namespace T
set_option maxRecDepth 100000
set_option maxHeartbeats 0
def AwDeep (h : Heap) : Prop := ∀ (lim : Nat) (L : List (Option Blk)), E.call 199 lim 19 [] (h.freeze ++ L) = some (.bool true, h.freeze ++ L)
theorem awDeep (bs : List (Option Blk)) : AwDeep ([primesB] ++ bs) := fun _ L => awake (d := 190) ((Sl_freeze.2 (sp0 bs)).app L)
theorem law17 (lim : Nat) {h : Heap} (A : AwDeep h) {C : List Value} {nm : ByteArray} {P S : Nat → Int} {v : Value} {l : List X2} {x : Int} (t : Tm C nm P S) (s : SlY h v l) :
    E.call 200 lim 17 [.agg C.toArray, v, i64 x] h = some (.bool true, h) := by
  have a1 := A
  unfold AwDeep at a1
  have k20 := fun lim hh => c20 (d := 198) (lim := lim) (h := hh) t
  have k23 := fun lim hh => c23 (d := 194) (lim := lim) (h := hh) t
  have s2 : ∀ L, SlY (h.freeze ++ L) v l := fun L => (Sl_freeze.2 s).app L
  have k62 := fun lim L => c62 (d := 198) (lim := lim) (s2 L)
  refine call1 fn17 rfl (by simp [ef17]) ?_
  by_cases hs : nm.size ≤ 30
  · by_cases hl : l.length ≤ 103
    · have k80 : ∀ lim L, E.call 199 lim 80 [v, i64 x] (h.freeze ++ L) = some (chV (h.freeze ++ L).length (chn l l.length x), (h.freeze ++ L) ++ chB (chn l l.length x)) := fun lim L => by
        obtain ⟨d, hd⟩ : ∃ d, 199 = d + l.length + 1 := ⟨198 - l.length, by omega⟩
        rw [hd]
        refine c80 (by omega) l.length ?_ (Nat.le_refl _)
        rw [List.take_length]; exact s2 L
      rcases Nat.eq_zero_or_pos l.length with hz | hz
      · have el : l = [] := List.eq_nil_of_length_eq_zero hz
        have gw : Heap.get (Heap.freeze (h.freeze ++ [some ⟨C, true⟩, some ⟨[], true⟩])) (h.length + 1) = some ⟨[], false⟩ := hget_freeze (k := ⟨[], true⟩) (by rw [hget_base (by simp)]; rfl)
        have sw : SlY (Heap.freeze (h.freeze ++ [some ⟨C, true⟩, some ⟨[], true⟩])) (.slice (some ⟨h.length + 1, 0, none⟩) 0 2) l := by rw [el]; exact SlY_own (l := []) (n := 0) gw rfl
        have sl0 : v = .slice none 0 0 ∨ ∃ b o t, v = .slice (some ⟨b, o, none⟩) 0 t ∧ b < h.length := by
          rcases s.low with e | ⟨b, o, m, t', e, hb⟩
          · exact .inl e
          · have := s.len
            rw [e, hz] at this
            simp at this
            rw [this] at e
            exact .inr ⟨b, o, t', e, hb⟩
        rcases sl0 with rfl | ⟨b, o', t', rfl, hb'⟩
        · have hb' : True := trivial
          by_cases h0 : chkT nm P S = 0
          · have k79 := fun lim L => c79 (d := 196) (lim := lim) (s2 L) (lo := 0) (hi := 87) (by omega) (by omega)
            by_cases h1 : (folR 0 87 l).1 = 0
            · simp only [tunV, tunB, if_pos h1, h1] at k79
              obtain ⟨g, em⟩ := folR_good h1
              by_cases h2 : isNote x = true
              · by_cases h3 : mLook (folR 0 87 l).2 x = none
                · have e : errD nm P S l x = 6 := by unfold errD; rw [if_neg (by simpa using h0), if_neg (by simpa using h1), if_pos h2, if_pos h3]
                  have k78 := fun lim => c78e (d := 193) (lim := lim) (x := x) t (by omega) sw (by rw [e]; decide)
                  rw [e] at k78
                  rw [em] at h3
                  obtain ⟨x48, nf⟩ := (look_swp g).1.1 h3
                  have ec := chn_none x48 nf
                  simp only [ec, chV, chB, if_true] at k80
                  generalize (folR 0 87 l).2 = M at *
                  simp at k78
                  simp [ef17, a1, k20, hs, t.len, t.take, k62, hl, E.append, E.added, maxLen, KOp_eq, hb', k23, k78, h0, k79, c24, h2, k80]
                · have e : errD nm P S l x = 0 := by unfold errD; rw [if_neg (by simpa using h0), if_neg (by simpa using h1), if_pos h2, if_neg h3]
                  have k78 := fun lim => c78 (d := 193) (lim := lim) (x := x) t (by omega) sw e
                  obtain ⟨o, _⟩ := okt h0
                  rw [em] at h3
                  obtain ⟨r, er, ez⟩ := chn_way g _ x (Nat.le_refl _) h3
                  have hx : 0 ≤ x ∧ x ≤ 87 := by simpa [isNote, within] using h2
                  have wa := fun i hi => wayN_at g hx (i := i) hi
                  have w00 : wayN l x 0 = 48 := by unfold wayN; rw [ez]; rfl
                  have cl := chn_len l l.length x
                  have gn := g.n
                  have c0 : chn l l.length x ≠ [] := by rw [er]; simp
                  have lst : wayN l x ((chn l l.length x).length - 1) = x.toNat := by
                    unfold wayN
                    have : (chn l l.length x)[(chn l l.length x).length - 1]? = some x := by rw [er]; simp
                    rw [this]; rfl
                  have npos : 1 ≤ (chn l l.length x).length := by rw [er]; simp
                  simp only [chV, chB, if_neg c0] at k80
                  have gA : ∀ Q : List (Option Blk), Heap.get (h.freeze ++ ([some ⟨C, true⟩, some ⟨[], true⟩] ++ (some ⟨cI (chn l l.length x), true⟩ :: Q))) (h.length + 2) = some ⟨cI (chn l l.length x), true⟩ := fun Q => by rw [hget_base (by simp)]; rfl
                  have gB : ∀ (A B D E' : Option Blk) (Q : List (Option Blk)), Heap.get (h.freeze ++ ([some ⟨C, true⟩, some ⟨[], true⟩] ++ (A :: B :: D :: E' :: some ⟨cI (chn l l.length x), true⟩ :: Q))) (h.length + 6) = some ⟨cI (chn l l.length x), true⟩ := fun A B D E' Q => by rw [hget_base (by simp)]; rfl
                  have k76 := fun lim B D E' Q => c76 (d := 198) (lim := lim) (SlI_own (gA (B :: D :: E' :: some ⟨cI (chn l l.length x), true⟩ :: Q)) rfl) (SlI_own (gB (some ⟨cI (chn l l.length x), true⟩) B D E' Q) rfl) (by omega)
                  have k81 := fun lim A B D E' Q => c81 (d := 193) (lim := lim) (f := wayN l x) t o (hget_freeze (gB A B D E' Q)) rfl npos (by omega) wa
                  rw [w00, lst] at k81
                  have xn : ((x.toNat : Nat) : Int) = x := by omega
                  have k21 := fun lim hh => c21 (d := 192) (lim := lim) (h := hh) (n := x) t (by omega)
                  have iv := intV_ok (lo := 48) (hi := x.toNat) h0 note48 (by rw [xn]; exact h2)
                  simp only [Int.cast_ofNat_Int, xn] at iv
                  rw [iv] at k21
                  have k26 := fun lim hh => c26 (d := 195) (lim := lim) (h := hh) (int_ok o (lo := 48) (hi := x.toNat) (by omega) (by omega)).2
                  obtain ⟨p1, p2, p3, p4, hp⟩ := pit_pt (intX P S 48 x.toNat)
                  rw [hp] at k78 k21 k26
                  generalize intX P S 48 x.toNat = X at *
                  obtain ⟨x1, x2, x3⟩ := X
                  generalize (folR 0 87 l).2 = M at *
                  generalize chn l l.length x = Cx at *
                  simp at k78 k76 k81
                  simp [ef17, a1, k20, hs, t.len, t.take, k62, hl, E.append, E.added, maxLen, KOp_eq, hb', k23, k78, h0, k79, c24, h2, k80, c0, k21, k76, k81, k26, Nat.add_assoc]
              · simp only [Bool.not_eq_true] at h2
                have e : errD nm P S l x = 2 := by unfold errD; rw [if_neg (by simpa using h0), if_neg (by simpa using h1), if_neg (by simp [h2])]
                have k78 := fun lim => c78e (d := 193) (lim := lim) (x := x) t (by omega) sw (by rw [e]; decide)
                rw [e] at k78
                generalize (folR 0 87 l).2 = M at *
                simp at k78
                simp [ef17, a1, k20, hs, t.len, t.take, k62, hl, E.append, E.added, maxLen, KOp_eq, hb', k23, k78, h0, k79, c24, h2]
            · have e : errD nm P S l x = (folR 0 87 l).1 := by unfold errD; rw [if_neg (by simpa using h0), if_pos h1]
              have k78 := fun lim => c78e (d := 193) (lim := lim) (x := x) t (by omega) sw (by rw [e]; exact h1)
              rw [e] at k78
              simp only [tunV, tunB, if_neg h1] at k79
              simp at k78
              simp [ef17, a1, k20, hs, t.len, t.take, k62, hl, E.append, E.added, maxLen, KOp_eq, hb', k23, k78, h0, k79, h1]
          · have e : errD nm P S l x = chkT nm P S := by unfold errD; rw [if_pos h0]
            have k78 := fun lim => c78e (d := 193) (lim := lim) (x := x) t (by omega) sw (by rw [e]; exact h0)
            rw [e] at k78
            simp at k78
            simp [ef17, a1, k20, hs, t.len, t.take, k62, hl, E.append, E.added, maxLen, KOp_eq, hb', k23, k78, h0]
        · by_cases h0 : chkT nm P S = 0
          · have k79 := fun lim L => c79 (d := 196) (lim := lim) (s2 L) (lo := 0) (hi := 87) (by omega) (by omega)
            by_cases h1 : (folR 0 87 l).1 = 0
            · simp only [tunV, tunB, if_pos h1, h1] at k79
              obtain ⟨g, em⟩ := folR_good h1
              by_cases h2 : isNote x = true
              · by_cases h3 : mLook (folR 0 87 l).2 x = none
                · have e : errD nm P S l x = 6 := by unfold errD; rw [if_neg (by simpa using h0), if_neg (by simpa using h1), if_pos h2, if_pos h3]
                  have k78 := fun lim => c78e (d := 193) (lim := lim) (x := x) t (by omega) sw (by rw [e]; decide)
                  rw [e] at k78
                  rw [em] at h3
                  obtain ⟨x48, nf⟩ := (look_swp g).1.1 h3
                  have ec := chn_none x48 nf
                  simp only [ec, chV, chB, if_true] at k80
                  generalize (folR 0 87 l).2 = M at *
                  simp at k78
                  simp [ef17, a1, k20, hs, t.len, t.take, k62, hl, E.append, E.added, maxLen, KOp_eq, hb', k23, k78, h0, k79, c24, h2, k80]
                · have e : errD nm P S l x = 0 := by unfold errD; rw [if_neg (by simpa using h0), if_neg (by simpa using h1), if_pos h2, if_neg h3]
                  have k78 := fun lim => c78 (d := 193) (lim := lim) (x := x) t (by omega) sw e
                  obtain ⟨o, _⟩ := okt h0
                  rw [em] at h3
                  obtain ⟨r, er, ez⟩ := chn_way g _ x (Nat.le_refl _) h3
                  have hx : 0 ≤ x ∧ x ≤ 87 := by simpa [isNote, within] using h2
                  have wa := fun i hi => wayN_at g hx (i := i) hi
                  have w00 : wayN l x 0 = 48 := by unfold wayN; rw [ez]; rfl
                  have cl := chn_len l l.length x
                  have gn := g.n
                  have c0 : chn l l.length x ≠ [] := by rw [er]; simp
                  have lst : wayN l x ((chn l l.length x).length - 1) = x.toNat := by
                    unfold wayN
                    have : (chn l l.length x)[(chn l l.length x).length - 1]? = some x := by rw [er]; simp
                    rw [this]; rfl
                  have npos : 1 ≤ (chn l l.length x).length := by rw [er]; simp
                  simp only [chV, chB, if_neg c0] at k80
                  have gA : ∀ Q : List (Option Blk), Heap.get (h.freeze ++ ([some ⟨C, true⟩, some ⟨[], true⟩] ++ (some ⟨cI (chn l l.length x), true⟩ :: Q))) (h.length + 2) = some ⟨cI (chn l l.length x), true⟩ := fun Q => by rw [hget_base (by simp)]; rfl
                  have gB : ∀ (A B D E' : Option Blk) (Q : List (Option Blk)), Heap.get (h.freeze ++ ([some ⟨C, true⟩, some ⟨[], true⟩] ++ (A :: B :: D :: E' :: some ⟨cI (chn l l.length x), true⟩ :: Q))) (h.length + 6) = some ⟨cI (chn l l.length x), true⟩ := fun A B D E' Q => by rw [hget_base (by simp)]; rfl
                  have k76 := fun lim B D E' Q => c76 (d := 198) (lim := lim) (SlI_own (gA (B :: D :: E' :: some ⟨cI (chn l l.length x), true⟩ :: Q)) rfl) (SlI_own (gB (some ⟨cI (chn l l.length x), true⟩) B D E' Q) rfl) (by omega)
                  have k81 := fun lim A B D E' Q => c81 (d := 193) (lim := lim) (f := wayN l x) t o (hget_freeze (gB A B D E' Q)) rfl npos (by omega) wa
                  rw [w00, lst] at k81
                  have xn : ((x.toNat : Nat) : Int) = x := by omega
                  have k21 := fun lim hh => c21 (d := 192) (lim := lim) (h := hh) (n := x) t (by omega)
                  have iv := intV_ok (lo := 48) (hi := x.toNat) h0 note48 (by rw [xn]; exact h2)
                  simp only [Int.cast_ofNat_Int, xn] at iv
                  rw [iv] at k21
                  have k26 := fun lim hh => c26 (d := 195) (lim := lim) (h := hh) (int_ok o (lo := 48) (hi := x.toNat) (by omega) (by omega)).2
                  obtain ⟨p1, p2, p3, p4, hp⟩ := pit_pt (intX P S 48 x.toNat)
                  rw [hp] at k78 k21 k26
                  generalize intX P S 48 x.toNat = X at *
                  obtain ⟨x1, x2, x3⟩ := X
                  generalize (folR 0 87 l).2 = M at *
                  generalize chn l l.length x = Cx at *
                  simp at k78 k76 k81
                  simp [ef17, a1, k20, hs, t.len, t.take, k62, hl, E.append, E.added, maxLen, KOp_eq, hb', k23, k78, h0, k79, c24, h2, k80, c0, k21, k76, k81, k26, Nat.add_assoc]
              · simp only [Bool.not_eq_true] at h2
                have e : errD nm P S l x = 2 := by unfold errD; rw [if_neg (by simpa using h0), if_neg (by simpa using h1), if_neg (by simp [h2])]
                have k78 := fun lim => c78e (d := 193) (lim := lim) (x := x) t (by omega) sw (by rw [e]; decide)
                rw [e] at k78
                generalize (folR 0 87 l).2 = M at *
                simp at k78
                simp [ef17, a1, k20, hs, t.len, t.take, k62, hl, E.append, E.added, maxLen, KOp_eq, hb', k23, k78, h0, k79, c24, h2]
            · have e : errD nm P S l x = (folR 0 87 l).1 := by unfold errD; rw [if_neg (by simpa using h0), if_pos h1]
              have k78 := fun lim => c78e (d := 193) (lim := lim) (x := x) t (by omega) sw (by rw [e]; exact h1)
              rw [e] at k78
              simp only [tunV, tunB, if_neg h1] at k79
              simp at k78
              simp [ef17, a1, k20, hs, t.len, t.take, k62, hl, E.append, E.added, maxLen, KOp_eq, hb', k23, k78, h0, k79, h1]
          · have e : errD nm P S l x = chkT nm P S := by unfold errD; rw [if_pos h0]
            have k78 := fun lim => c78e (d := 193) (lim := lim) (x := x) t (by omega) sw (by rw [e]; exact h0)
            rw [e] at k78
            simp at k78
            simp [ef17, a1, k20, hs, t.len, t.take, k62, hl, E.append, E.added, maxLen, KOp_eq, hb', k23, k78, h0]
      · obtain ⟨b, o', kc, rfl, G, g1, g2, hb'⟩ := s.blkF (by omega) (by decide)
        have one := plain_one_all (cY_plain l)
        have gw : Heap.get (Heap.freeze (h.freeze ++ [some ⟨C, true⟩, none, some ⟨cY l, true⟩])) (h.length + 2) = some ⟨cY l, false⟩ := hget_freeze (k := ⟨cY l, true⟩) (by rw [hget_base (by simp)]; rfl)
        have sw : SlY _ (.slice (some ⟨h.length + 2, 0, none⟩) l.length 2) l := SlY_own gw rfl
        have m1 : l.length * 16 ≤ 140737488355328 := by omega
        have m2 : l.length ≤ 9223372036854775807 := by omega
        have nz : l.length ≠ 0 := by omega
        by_cases h0 : chkT nm P S = 0
        · have k79 := fun lim L => c79 (d := 196) (lim := lim) (s2 L) (lo := 0) (hi := 87) (by omega) (by omega)
          by_cases h1 : (folR 0 87 l).1 = 0
          · simp only [tunV, tunB, if_pos h1, h1] at k79
            obtain ⟨g, em⟩ := folR_good h1
            by_cases h2 : isNote x = true
            · by_cases h3 : mLook (folR 0 87 l).2 x = none
              · have e : errD nm P S l x = 6 := by unfold errD; rw [if_neg (by simpa using h0), if_neg (by simpa using h1), if_pos h2, if_pos h3]
                have k78 := fun lim => c78e (d := 193) (lim := lim) (x := x) t (by omega) sw (by rw [e]; decide)
                rw [e] at k78
                rw [em] at h3
                obtain ⟨x48, nf⟩ := (look_swp g).1.1 h3
                have ec := chn_none x48 nf
                simp only [ec, chV, chB, if_true] at k80
                generalize (folR 0 87 l).2 = M at *
                simp at k78
                simp [ef17, a1, k20, hs, t.len, t.take, k62, hl, E.append, E.added, maxLen, KOp_eq, hb', k23, G, g1, g2, one, m1, m2, nz, k78, h0, k79, c24, h2, k80]
              · have e : errD nm P S l x = 0 := by unfold errD; rw [if_neg (by simpa using h0), if_neg (by simpa using h1), if_pos h2, if_neg h3]
                have k78 := fun lim => c78 (d := 193) (lim := lim) (x := x) t (by omega) sw e
                obtain ⟨o, _⟩ := okt h0
                rw [em] at h3
                obtain ⟨r, er, ez⟩ := chn_way g _ x (Nat.le_refl _) h3
                have hx : 0 ≤ x ∧ x ≤ 87 := by simpa [isNote, within] using h2
                have wa := fun i hi => wayN_at g hx (i := i) hi
                have w00 : wayN l x 0 = 48 := by unfold wayN; rw [ez]; rfl
                have cl := chn_len l l.length x
                have gn := g.n
                have c0 : chn l l.length x ≠ [] := by rw [er]; simp
                have lst : wayN l x ((chn l l.length x).length - 1) = x.toNat := by
                  unfold wayN
                  have : (chn l l.length x)[(chn l l.length x).length - 1]? = some x := by rw [er]; simp
                  rw [this]; rfl
                have npos : 1 ≤ (chn l l.length x).length := by rw [er]; simp
                simp only [chV, chB, if_neg c0] at k80
                have gA : ∀ Q : List (Option Blk), Heap.get (h.freeze ++ ([some ⟨C, true⟩, none, some ⟨cY l, true⟩] ++ (some ⟨cI (chn l l.length x), true⟩ :: Q))) (h.length + 3) = some ⟨cI (chn l l.length x), true⟩ := fun Q => by rw [hget_base (by simp)]; rfl
                have gB : ∀ (A B D E' : Option Blk) (Q : List (Option Blk)), Heap.get (h.freeze ++ ([some ⟨C, true⟩, none, some ⟨cY l, true⟩] ++ (A :: B :: D :: E' :: some ⟨cI (chn l l.length x), true⟩ :: Q))) (h.length + 7) = some ⟨cI (chn l l.length x), true⟩ := fun A B D E' Q => by rw [hget_base (by simp)]; rfl
                have k76 := fun lim B D E' Q => c76 (d := 198) (lim := lim) (SlI_own (gA (B :: D :: E' :: some ⟨cI (chn l l.length x), true⟩ :: Q)) rfl) (SlI_own (gB (some ⟨cI (chn l l.length x), true⟩) B D E' Q) rfl) (by omega)
                have k81 := fun lim A B D E' Q => c81 (d := 193) (lim := lim) (f := wayN l x) t o (hget_freeze (gB A B D E' Q)) rfl npos (by omega) wa
                rw [w00, lst] at k81
                have xn : ((x.toNat : Nat) : Int) = x := by omega
                have k21 := fun lim hh => c21 (d := 192) (lim := lim) (h := hh) (n := x) t (by omega)
                have iv := intV_ok (lo := 48) (hi := x.toNat) h0 note48 (by rw [xn]; exact h2)
                simp only [Int.cast_ofNat_Int, xn] at iv
                rw [iv] at k21
                have k26 := fun lim hh => c26 (d := 195) (lim := lim) (h := hh) (int_ok o (lo := 48) (hi := x.toNat) (by omega) (by omega)).2
                obtain ⟨p1, p2, p3, p4, hp⟩ := pit_pt (intX P S 48 x.toNat)
                rw [hp] at k78 k21 k26
                generalize intX P S 48 x.toNat = X at *
                obtain ⟨x1, x2, x3⟩ := X
                generalize (folR 0 87 l).2 = M at *
                generalize chn l l.length x = Cx at *
                simp at k78 k76 k81
                simp [ef17, a1, k20, hs, t.len, t.take, k62, hl, E.append, E.added, maxLen, KOp_eq, hb', k23, G, g1, g2, one, m1, m2, nz, k78, h0, k79, c24, h2, k80, c0, k21, k76, k81, k26, Nat.add_assoc]
            · simp only [Bool.not_eq_true] at h2
              have e : errD nm P S l x = 2 := by unfold errD; rw [if_neg (by simpa using h0), if_neg (by simpa using h1), if_neg (by simp [h2])]
              have k78 := fun lim => c78e (d := 193) (lim := lim) (x := x) t (by omega) sw (by rw [e]; decide)
              rw [e] at k78
              generalize (folR 0 87 l).2 = M at *
              simp at k78
              simp [ef17, a1, k20, hs, t.len, t.take, k62, hl, E.append, E.added, maxLen, KOp_eq, hb', k23, G, g1, g2, one, m1, m2, nz, k78, h0, k79, c24, h2]
          · have e : errD nm P S l x = (folR 0 87 l).1 := by unfold errD; rw [if_neg (by simpa using h0), if_pos h1]
            have k78 := fun lim => c78e (d := 193) (lim := lim) (x := x) t (by omega) sw (by rw [e]; exact h1)
            rw [e] at k78
            simp only [tunV, tunB, if_neg h1] at k79
            simp at k78
            simp [ef17, a1, k20, hs, t.len, t.take, k62, hl, E.append, E.added, maxLen, KOp_eq, hb', k23, G, g1, g2, one, m1, m2, nz, k78, h0, k79, h1]
        · have e : errD nm P S l x = chkT nm P S := by unfold errD; rw [if_pos h0]
          have k78 := fun lim => c78e (d := 193) (lim := lim) (x := x) t (by omega) sw (by rw [e]; exact h0)
          rw [e] at k78
          simp at k78
          simp [ef17, a1, k20, hs, t.len, t.take, k62, hl, E.append, E.added, maxLen, KOp_eq, hb', k23, G, g1, g2, one, m1, m2, nz, k78, h0]
    · simp [ef17, a1, k20, hs, t.len, t.take, k62, hl]
  · simp [ef17, a1, k20, hs, t.len, t.take]
theorem temperDerives_law : ∀ (bs : List (Option Blk)) us, Heap.freeze ([primesB] ++ bs) = [primesB] ++ bs → (∀ n, ctBlocks (([ctT, (false, [.sl [ctI, ctI]]), (false, [ctI])] : List (Bool × List CT)).flatMap (·.2)) = some n → bs.length = n) →
    ArgsV 6 ([primesB] ++ bs) [ctT, (false, [.sl [ctI, ctI]]), (false, [ctI])] us → ∃ h', E.call 200 (([primesB] : Heap) ++ bs).length 17 us ([primesB] ++ bs) = some (.bool true, h') := by
  intro bs us _ k a
  obtain ⟨u, v, w, rfl, a1, a2, a3⟩ := args3 a
  obtain ⟨C, nm, P, S, rfl, t, _⟩ := arg_tm a1
  obtain ⟨l, s, _⟩ := arg_steps (d := 5) (a2.2 0 _ _ rfl rfl)
  obtain ⟨_, rfl, _⟩ := arg_int a3
  exact ⟨_, law17 _ (awDeep bs) t s⟩
end T
end Go.Abs
