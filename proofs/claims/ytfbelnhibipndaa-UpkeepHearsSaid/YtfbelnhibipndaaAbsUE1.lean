/- Chapter 7: raises. -/
import Derived.Test.YtfbelnhibipndaaAbsUD1
import Derived.Test.YtfbelnhibipndaaAbsUE0
set_option linter.unusedSimpArgs false
set_option linter.unusedVariables false
namespace Go.Abs
namespace U
set_option maxRecDepth 100000
set_option maxHeartbeats 0
def gI (g : List Int) (i : Nat) : Int := g.getD i 0
theorem gI_eq {g : List Int} {i : Nat} (h : i < g.length) : gI g i = g[i] := by unfold gI; rw [List.getD_eq_getElem?_getD, List.getElem?_eq_getElem h]; rfl
def mis (x : Int) : Bool := within x 0 200000
def rais (l : List P3) (g : List Int) (most : Int) (i : Nat) : Int := gI g i + min most (gI g i * ovr l i / 1000)
def raisL (l : List P3) (g : List Int) (most : Int) (n : Nat) : List Int := (List.range n).map (rais l g most)
def raisE (l : List P3) (g : List Int) (most : Int) : Int :=
  if chkO l = 0 then (if g.length = 88 then (if (g.any fun x => !mis x) = true ∨ mis most = false then 2 else 0) else 10) else chkO l
theorem ovr_bd {l : List P3} (h : chkO l = 0) (n : Int) : 0 ≤ ovr l n ∧ ovr l n ≤ 500 := by
  unfold chkO at h
  split at h
  · contradiction
  · have k := (fstE_all _ 0 rfl).1 h
    unfold ovr
    split
    · rename_i hi
      have := k _ (by omega) hi
      unfold oErr at this
      split at this
      · rename_i q; exact (within_iffU).1 q.2.2
      · contradiction
    · omega
where
  within_iffU {a b c : Int} : within a b c = true ↔ b ≤ a ∧ a ≤ c := by simp [within]
theorem mis_iff {x : Int} : mis x = true ↔ 0 ≤ x ∧ x ≤ 200000 := by simp [mis, within]
theorem c84 {d lim : Nat} {h : Heap} {x : Int} : E.call (d + 2) lim 84 [i64 x] h = some (.bool (!mis x), h) := by
  refine call1 fn84 rfl (by simp [ef84]) ?_
  simp [ef84, c65, mis]
theorem raisL_next (l : List P3) (g : List Int) (most : Int) (n : Nat) : raisL l g most n ++ [rais l g most n] = raisL l g most (n + 1) := by
  simp [raisL, List.range_succ]
theorem raisL_len (l : List P3) (g : List Int) (most : Int) (n : Nat) : (raisL l g most n).length = n := by simp [raisL]
/-- The numbers in the making. -/
def raisM (l : List P3) (g : List Int) (most : Int) (i : Nat) : List Int := raisL l g most i ++ List.replicate (88 - i) 0
theorem raisM_set (l : List P3) (g : List Int) (most : Int) {i : Nat} (h : i < 88) : (raisM l g most i).set i (rais l g most i) = raisM l g most (i + 1) := by
  unfold raisM
  rw [List.set_append_right _ _ (by rw [raisL_len]; omega), raisL_len, Nat.sub_self, ← raisL_next]
  obtain ⟨k, hk⟩ : ∃ k, 88 - i = k + 1 := ⟨87 - i, by omega⟩
  rw [hk, show 88 - (i + 1) = k by omega, List.replicate_succ]
  simp
theorem raisM_len (l : List P3) (g : List Int) (most : Int) {i : Nat} (h : i ≤ 88) : (raisM l g most i).length = 88 := by simp [raisM, raisL_len]; omega
theorem raisM_end (l : List P3) (g : List Int) (most : Int) : raisM l g most 88 = raisL l g most 88 := by simp [raisM]
theorem raisM_0 (l : List P3) (g : List Int) (most : Int) : raisM l g most 0 = List.replicate 88 0 := by simp [raisM, raisL]
/-- What is known of right arguments. -/
structure RaOk (l : List P3) (g : List Int) (most : Int) : Prop where
  o : chkO l = 0
  len : g.length = 88
  g : ∀ i, i < 88 → 0 ≤ gI g i ∧ gI g i ≤ 200000
  most : 0 ≤ most ∧ most ≤ 200000
theorem RaOk.of {l : List P3} {g : List Int} {most : Int} (h : raisE l g most = 0) : RaOk l g most := by
  unfold raisE at h
  split at h
  · rename_i q0
    split at h
    · rename_i q1
      split at h
      · contradiction
      · rename_i q2
        rw [not_or] at q2
        have q3 : mis most = true := by simpa using q2.2
        refine ⟨q0, q1, fun i hi => ?_, mis_iff.1 q3⟩
        have hlt : i < g.length := by omega
        have := q2.1
        rw [List.any_eq_true] at this
        have h2 : mis g[i] = true := by
          rcases e : mis g[i] with _ | _
          · exact absurd ⟨g[i], List.getElem_mem hlt, by simp [e]⟩ this
          · rfl
        rw [gI_eq hlt]
        exact mis_iff.1 h2
    · contradiction
  · rename_i q0; exact absurd h q0
theorem RaOk.bd {l : List P3} {g : List Int} {most : Int} (O : RaOk l g most) {i : Nat} (hi : i < 88) : 0 ≤ gI g i * ovr l i ∧ gI g i * ovr l i ≤ 200000 * 500 := by
  have a := O.g i hi
  have b := ovr_bd O.o (i : Int)
  exact ⟨Int.mul_nonneg a.1 b.1, Int.mul_le_mul a.2 b.2 b.1 (by omega)⟩
def raisV (l : List P3) (g : List Int) (most : Int) (b : Nat) : Value := .tuple #[if raisE l g most = 0 then .slice (some ⟨b, 0, none⟩) 88 1 else .slice none 0 0, i64 (raisE l g most)]
def raisK (l : List P3) (g : List Int) (most : Int) : List (Option Blk) := if raisE l g most = 0 then [some ⟨cI (raisL l g most 88), true⟩] else []
theorem c44 {d lim : Nat} {h : Heap} {v w : Value} {l : List P3} {g : List Int} {most : Int} (s : Sl3 h v l) (t : SlI' h w g) (hg : g.length ≤ 1000) :
    E.call (d + 6) lim 44 [v, w, i64 most] h = some (raisV l g most h.length, h ++ raisK l g most) := by
  have r := s.rules2
  have r' := t.rules2
  have k36 := fun lim => c36 (d := d + 2) (lim := lim) (Sl_freeze.2 s)
  have k83 := fun lim => c83 (d := d + 3) (lim := lim) (g := 84) (ca := #[]) (p := fun x => !mis x) (Sl_freeze.2 t) (by omega) rfl (by simp) (fun lim x => by have := c84 (d := d + 1) (lim := lim) (h := h.freeze.freeze) (x := x); simpa using this)
  refine call_pure fn44 rfl (by simp [ef44]) ?_
  unfold raisV raisK
  by_cases q0 : chkO l = 0
  case neg =>
    have e : raisE l g most = chkO l := by simp [raisE, q0]
    rw [e]
    simp [ef44, k36, q0]
  by_cases q1 : g.length = 88
  case neg =>
    have e : raisE l g most = 10 := by simp [raisE, q0, q1]
    have q1' : ¬ (g.length : Int) = 88 := by omega
    rw [e]
    simp [ef44, k36, q0, r', q1, q1']
  have q1' : (g.length : Int) = 88 := by omega
  by_cases q2 : (g.any fun x => !mis x) = true
  · have e : raisE l g most = 2 := by simp only [raisE, q0, q1, q2, true_or, if_true]
    rw [e]
    simp only [q2] at k83
    simp [ef44, k36, q0, r', q1, q1', k83]
  by_cases q3 : within most 0 200000 = true
  case neg =>
    have q3' : mis most = false := by simpa [mis] using q3
    have e : raisE l g most = 2 := by simp only [raisE, q0, q1, q3', or_true, if_true]
    rw [e]
    have q2' : (g.any fun x => !mis x) = false := by simpa using q2
    simp only [q2'] at k83
    simp [ef44, k36, q0, r', q1, q1', k83, c65, q3]
  have q3' : mis most = true := q3
  have e : raisE l g most = 0 := by
    have q2' : (g.any fun x => !mis x) = false := by simpa using q2
    simp only [raisE, q0, q1, q2', q3', if_true]; simp
  have O := RaOk.of e
  rw [e]
  have q2' : (g.any fun x => !mis x) = false := by simpa using q2
  simp only [q2'] at k83
  simp [ef44, k36, q0, r', q1, q1', k83, c65, q3, zeros, maxLen]
  refine wpC_loop (fun q st => ∃ i : Nat, q = 88 - i ∧ i ≤ 88 ∧ st = ⟨[(0, v), (2, i64 most), (9, .slice (some ⟨h.length, 0, none⟩) 88 1), (30, w), (31, i64 88), (32, i64 (i : Int))], h.freeze ++ [some ⟨cI (raisM l g most i), true⟩]⟩) 88 (by show (88 : Nat) < 2 ^ 64; omega) ?_ ?_
  · simp [-collect_own1, St.tidy, collect_box, s.own, t.own, r, r']
    exact ⟨0, by omega, by omega, rfl, by rw [raisM_0]; rfl⟩
  · rintro q hq _ ⟨i, rfl, hi, rfl⟩
    by_cases hlt : i < 88
    · have w1' := w1 (i := i) (by omega)
      have hlti : (i : Int) < 88 := by omega
      have gl : i < g.length := by omega
      have k79 := fun lim => c79 (d := d + 1) (lim := lim) (n := (i : Int)) (h := h.freeze ++ [some ⟨cI (raisM l g most i), true⟩]) ((Sl_freeze.2 s).app _) (by have := chkO_len q0; omega)
      have ca : ∀ hh, (cI g)[i]'hh = i64 (gI g i) := fun hh => by rw [gI_eq gl]; simp [cI]
      have b := O.bd hlt
      have bg := O.g i hlt
      have bm := O.most
      have hset := raisM_set l g most hlt
      have hl := raisM_len l g most (i := i) (by omega)
      have hl2 := raisM_len l g most (i := i + 1) (by omega)
      have er : rais l g most i = gI g i + min most (gI g i * ovr l i / 1000) := rfl
      generalize hX : gI g i * ovr l i = X at *
      have wa : IntKind.wrap .i64 X = X := wrap_eq (by omega) (by omega)
      have wb : IntKind.wrap .i64 (qdiv X 1000) = X / 1000 := by rw [qdiv_nn b.1]; exact wrap_eq (by omega) (by omega)
      have wc : IntKind.wrap .i64 (gI g i + min most (X / 1000)) = rais l g most i := by rw [er]; exact wrap_eq (by omega) (by omega)
      simp [-collect_own1, hlt, hlti, Nat.not_le.2 hlt, gl, r, r', k79, ca, hX, wa, wb, wc, w1', St.tidy, collect_box, s.own, t.own, hl, cI_set, hset, hl2]
      exact ⟨by omega, 88 - (i + 1), by omega, i + 1, by omega, by omega, by omega, rfl⟩
    · obtain rfl : i = 88 := by omega
      simp [raisM_end]
theorem raisE_bad {l : List P3} {g : List Int} {most : Int} (q0 : chkO l = 0) (q1 : g.length = 88) (h : (∃ i, i < 88 ∧ mis (gI g i) = false) ∨ mis most = false) : raisE l g most = 2 := by
  unfold raisE
  rw [if_pos q0, if_pos q1, if_pos]
  rcases h with ⟨i, hi, e⟩ | e
  · left
    rw [List.any_eq_true]
    have hlt : i < g.length := by omega
    exact ⟨g[i], List.getElem_mem hlt, by rw [← gI_eq hlt, e]; rfl⟩
  · exact .inr e
theorem raisE_good {l : List P3} {g : List Int} {most : Int} (q0 : chkO l = 0) (q1 : g.length = 88) (h : ∀ i, i < 88 → mis (gI g i) = true) (h2 : mis most = true) : raisE l g most = 0 := by
  unfold raisE
  rw [if_pos q0, if_pos q1, if_neg]
  rintro (e | e)
  · rw [List.any_eq_true] at e
    obtain ⟨x, hx, hp⟩ := e
    obtain ⟨i, hi, rfl⟩ := List.getElem_of_mem hx
    rw [← gI_eq hi, h i (by omega)] at hp
    cases hp
  · rw [h2] at e; cases e
theorem c66' {d lim : Nat} {h : Heap} {a : Int} : E.call (d + 2) lim 66 [i64 a] h = some (.bool (mis a), h) := c66
theorem c46 {d lim : Nat} {h : Heap} {v w : Value} {l : List P3} {g : List Int} {most : Int} (s : Sl3 h v l) (t : SlI' h w g) :
    E.call (d + 4) lim 46 [v, w, i64 most] h = some (raisV l g most h.length, h ++ raisK l g most) := by
  have r := s.rules2
  have r' := t.rules2
  have k35 := fun lim => c35 (d := d) (lim := lim) (Sl_freeze.2 s)
  refine call_pure fn46 rfl (by simp [ef46]) ?_
  unfold raisV raisK
  by_cases q0 : chkO l = 0
  case neg =>
    have e : raisE l g most = chkO l := by simp [raisE, q0]
    rw [e]
    simp [ef46, k35, q0]
  by_cases q1 : g.length = 88
  case neg =>
    have e : raisE l g most = 10 := by simp [raisE, q0, q1]
    have q1' : ¬ (g.length : Int) = 88 := by omega
    rw [e]
    simp [ef46, k35, q0, r', q1, q1']
  have q1' : (g.length : Int) = 88 := by omega
  simp [ef46, k35, q0, r', q1, q1']
  refine wpC_loop (fun q st => ∃ i : Nat, q = 88 - i ∧ i ≤ 88 ∧ (∀ j, j < i → mis (gI g j) = true) ∧ st = ⟨[(0, v), (1, w), (2, i64 most), (9, i64 (i : Int))], h.freeze⟩) 88 (by show (88 : Nat) < 2 ^ 64; omega) ?_ ?_
  · simp [St.tidy, r, r']
    exact ⟨0, by omega, by omega, fun j hj => by omega, rfl⟩
  · rintro q hq _ ⟨i, rfl, hi, hm, rfl⟩
    by_cases hlt : i < 88
    · have w1' := w1 (i := i) (by omega)
      have hlti : (i : Int) < 88 := by omega
      have gl : i < g.length := by omega
      have ca : ∀ hh, (cI g)[i]'hh = i64 (gI g i) := fun hh => by rw [gI_eq gl]; simp [cI]
      by_cases q2 : mis (gI g i) = true
      · simp [hlt, hlti, Nat.not_le.2 hlt, gl, r, r', ca, c66', q2, w1', St.tidy]
        refine ⟨88 - (i + 1), by omega, i + 1, by omega, by omega, fun j hj => ?_, by omega⟩
        rcases Nat.lt_or_ge j i with z | z
        · exact hm j z
        · rw [show j = i by omega]; exact q2
      · have e := raisE_bad (most := most) q0 q1 (.inl ⟨i, hlt, by simpa using q2⟩)
        rw [e]
        simp [hlt, hlti, Nat.not_le.2 hlt, gl, r, r', ca, c66', q2]
    · obtain rfl : i = 88 := by omega
      by_cases q3 : mis most = true
      case neg =>
        have e := raisE_bad (l := l) (g := g) q0 q1 (.inr (by simpa using q3))
        rw [e]
        simp [c66', q3]
      have e := raisE_good q0 q1 hm q3
      have O := RaOk.of e
      rw [e]
      simp [c66', q3]
      refine wpC_loop (fun q st => ∃ i : Nat, q = 88 - i ∧ i ≤ 88 ∧ st = ⟨[(0, v), (1, w), (2, i64 most), (10, if i = 0 then .slice none 0 0 else .slice (some ⟨h.length, 0, none⟩) i 1), (11, i64 (i : Int))], h.freeze ++ if i = 0 then [] else [some ⟨cI (raisL l g most i), true⟩]⟩) 88 (by show (88 : Nat) < 2 ^ 64; omega) ?_ ?_
      · simp [St.tidy, r, r']
        exact ⟨0, by omega, by omega, ⟨rfl, rfl⟩, rfl⟩
      · rintro q hq _ ⟨i, rfl, hi, rfl⟩
        by_cases hlt : i < 88
        · have w1' := w1 (i := i) (by omega)
          have hlti : (i : Int) < 88 := by omega
          have gl : i < g.length := by omega
          have ca : ∀ hh, (cI g)[i]'hh = i64 (gI g i) := fun hh => by rw [gI_eq gl]; simp [cI]
          have b := O.bd hlt
          have bg := O.g i hlt
          have bm := O.most
          have hn := raisL_next l g most i
          have er : rais l g most i = gI g i + min most (gI g i * ovr l i / 1000) := rfl
          generalize hX : gI g i * ovr l i = X at *
          have wa : IntKind.wrap .i64 X = X := wrap_eq (by omega) (by omega)
          have wb : IntKind.wrap .i64 (qdiv X 1000) = X / 1000 := by rw [qdiv_nn b.1]; exact wrap_eq (by omega) (by omega)
          have wc : IntKind.wrap .i64 (gI g i + min most (X / 1000)) = rais l g most i := by rw [er]; exact wrap_eq (by omega) (by omega)
          have hl := chkO_len q0
          rcases Nat.eq_zero_or_pos i with z | z
          · subst z
            have k38 := fun lim => c38 (d := d + 1) (lim := lim) (n := (0 : Int)) (h := h.freeze.freeze) (Sl_freeze.2 (Sl_freeze.2 s)) (by omega)
            have s0 : slAt 1 w (i64 0) = some (.pointer (some ⟨slB w, slO w, none⟩)) := by have := t.at (k := .i64) (i := 0) (by omega) (by omega); simpa using this
            have c0 : h.cell (slB w) (slO w) = some (i64 (gI g 0)) := by
              have := t.cell 0 (by omega)
              rw [Nat.add_zero, cI_at g gl, ← gI_eq gl] at this; exact this
            rw [show raisL l g most 0 = [] from rfl, List.nil_append] at hn
            simp only [Int.ofNat_zero, Int.cast_ofNat_Int] at hX er
            simp [-collect_own1, r, r', s0, c0, k38, hX, wa, wb, wc, St.tidy, collect_box, s.own, t.own, fillL, zeros, E.append, E.added]
            exact ⟨by decide, 87, by omega, 1, by omega, by omega, ⟨rfl, rfl⟩, by rw [if_neg (by decide), ← hn]; rfl⟩
          · have k38 := fun lim (L : Heap) => c38 (d := d + 1) (lim := lim) (n := (i : Int)) (h := (h.freeze ++ L).freeze) (Sl_freeze.2 ((Sl_freeze.2 s).app _)) (by omega)
            have z0 : i ≠ 0 := by omega
            have one := one_cI (raisL l g most i)
            have len := raisL_len l g most i
            simp [-collect_own1, z0, hlt, hlti, Nat.not_le.2 hlt, gl, r, r', k38, ca, hX, wa, wb, wc, w1', St.tidy, collect_box, s.own, t.own, fillL, zeros, E.append, E.added, len]
            refine ⟨⟨by omega, by unfold maxLen; omega⟩, 88 - (i + 1), by omega, i + 1, by omega, by omega, ⟨by rw [if_neg (by omega)], by omega⟩, ?_⟩
            rw [if_neg (by omega), ← hn, ← cI_app]; rfl
        · obtain rfl : i = 88 := by omega
          simp
theorem fr2 {bs : Heap} (h1 : bs.length = 2) : ∃ x y, Heap.freeze bs = [x, y] := by
  match bs, h1 with
  | [a, b], _ => exact ⟨_, _, rfl⟩
theorem law9 {bs : Heap} {lim : Nat} {v w : Value} {l : List P3} {g : List Int} {most : Int} (h1 : bs.length = 2) (s : Sl3 bs v l) (t : SlI' bs w g) : E.call 31 lim 9 [v, w, i64 most] bs = some (.bool true, bs) := by
  have r := s.rules2
  have r' := t.rules2
  obtain ⟨x, y, hx⟩ := fr2 h1
  have aw := fun lim => awake2 lim x y
  rw [← hx] at aw
  refine call1 fn9 rfl (by simp [ef9]) ?_
  by_cases h63 : 23 < l.length
  · have i63 : (23 : Int) < l.length := by omega
    simp [ef9, aw, r, r', i63, Int.not_le.2 i63, Nat.not_le.2 h63]
  have i63 : ¬ (23 : Int) < l.length := by omega
  by_cases h90 : 90 < g.length
  · have i90 : (90 : Int) < g.length := by omega
    simp [ef9, aw, r, r', i63, i90, Int.not_le.2 i90, Nat.not_le.2 h90, Int.not_lt.1 i63]
  have i90 : ¬ (90 : Int) < g.length := by omega
  have K45 := fun (L : Heap) lim => c45 (d := 29) (lim := lim) ((Sl_freeze.2 t).app L) (by omega)
  have K46 := fun (L : Heap) lim => c46 (d := 26) (lim := lim) (most := most) ((Sl_freeze.2 s).app L) ((Sl_freeze.2 t).app L)
  have K44 := fun (L : Heap) (b b' n n' lim : Nat) (hg : Heap.get (bs.freeze ++ L) b = some ⟨cS enc3 l, true⟩) (hn : n = l.length) (hg' : Heap.get (bs.freeze ++ L) b' = some ⟨cI g, true⟩) (hn' : n' = g.length) =>
    c44 (d := 24) (lim := lim) (most := most) (Sl_own (f := enc3) (es := 3) (fun _ => rfl) hg hn) (SlI'_own hg' hn') (by omega)
  have A1 := fun (L : Heap) (b : Nat) (hl : l.length ≠ 0) (hg : Heap.get (bs.freeze ++ L) b = some ⟨[], true⟩) => app_some (bytes := 24) ((Sl_freeze.2 s).app L) hl (by omega) hg (c3_one l) (by omega) (by omega)
  have A0 := fun (L : Heap) (b : Nat) (hl : l.length = 0) => app_none (es := 3) (bytes := 24) (b := b) (cs := cS enc3 l) (by have := (Sl_freeze.2 s).app L; rwa [hl] at this) (by omega)
  have e0 : l.length = 0 → cS enc3 l = [] := fun hz => by rw [List.eq_nil_of_length_eq_zero hz]; rfl
  have K47 := fun (L : Heap) (b b' lim : Nat) (hg : Heap.get (bs.freeze ++ L) b = some ⟨cI (raisL l g most 88), true⟩) (hg' : Heap.get (bs.freeze ++ L) b' = some ⟨cI (raisL l g most 88), true⟩) =>
    c47 (d := 29) (lim := lim) (SlI'_own hg (raisL_len l g most 88).symm) (SlI'_own hg' (raisL_len l g most 88).symm) (by rw [raisL_len]; omega) (by rw [raisL_len]; omega)
  have K47n := fun (L : Heap) (lim : Nat) => c47 (d := 29) (lim := lim) (h := bs.freeze ++ L) (v := .slice none 0 0) (w := .slice none 0 0) (a := []) (b := []) (Sl_nil' _) (Sl_nil' _) (by simp) (by simp)
  unfold raisV raisK at K44 K46
  by_cases q : raisE l g most = 0
  · simp only [q, if_true] at K44 K46
    rcases Nat.eq_zero_or_pos l.length with hz | hz
    · rw [e0 hz] at K44
      simp [ef9, aw, r, r', i63, i90, Int.not_lt.1 i90, zeros, fillL, A0, hz, K44, K45, K46, K47]
    · have n0 : l.length ≠ 0 := by omega
      simp [ef9, aw, r, r', i63, i90, Int.not_lt.1 i90, Int.not_lt.1 i63, zeros, fillL, A1, n0, K44, K45, K46, K47]
  · simp only [q, if_false] at K44 K46
    rcases Nat.eq_zero_or_pos l.length with hz | hz
    · rw [e0 hz] at K44
      simp [ef9, aw, r, r', i63, i90, Int.not_lt.1 i90, zeros, fillL, A0, hz, K44, K45, K46, K47n]
    · have n0 : l.length ≠ 0 := by omega
      simp [ef9, aw, r, r', i63, i90, Int.not_lt.1 i90, Int.not_lt.1 i63, zeros, fillL, A1, n0, K44, K45, K46, K47n]
where
  Sl_nil' (h : Heap) : SlI' h (.slice none 0 0) [] := ⟨rfl, rfl, fun q => absurd rfl q, .inl rfl, fun k hk => by simp at hk⟩
end U
end Go.Abs
