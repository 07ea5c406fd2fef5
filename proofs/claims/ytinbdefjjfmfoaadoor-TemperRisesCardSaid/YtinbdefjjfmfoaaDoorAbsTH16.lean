/- Rises: the program's. -/
import Derived.Test.YtinbdefjjfmfoaaDoorAbsTH15
set_option linter.unusedSimpArgs false
set_option linter.unusedVariables false
namespace Go.Abs
namespace T
set_option maxRecDepth 100000
set_option maxHeartbeats 0
def errR (nm : ByteArray) (P S : Nat → Int) (F : Int) (l : List X4) : Int := if chkT nm P S ≠ 0 then chkT nm P S else if isFork F = true then (if 100 < l.length then 8 else chkL l 0) else 2
theorem Sl.lowS {es : Nat} {h : Heap} {v : Value} {n : Nat} {cs : List Value} (s : Sl es h v n cs) : v = .slice none 0 0 ∨ ∃ b o m t, v = .slice (some ⟨b, o, none⟩) m t ∧ b < h.length := s.low
theorem c49a {d lim : Nat} {h : Heap} {C : List Value} {nm : ByteArray} {P S : Nat → Int} {F : Int} {v : Value} {l : List X4} (t : Tm C nm P S) (hs : nm.size ≤ 1000) (s : SlX h v l) (h0 : chkT nm P S ≠ 0) :
    E.call (d + 6) lim 49 [.agg C.toArray, i64 F, v] h = some (.tuple #[.bool false, i64 (chkT nm P S)], h) := by
  refine call1 fn49 rfl (by simp [ef49]) ?_
  have k84 := fun lim hh v => c84b (d := d) (lim := lim) (h := hh) (v := v) t hs h0
  simp [ef49, t.len, t.take, c93, k84, h0]
theorem c49b {d lim : Nat} {h : Heap} {C : List Value} {nm : ByteArray} {P S : Nat → Int} {F : Int} {v : Value} {l : List X4} (t : Tm C nm P S) (hs : nm.size ≤ 1000) (s : SlX h v l) (h0 : chkT nm P S = 0) (hf : isFork F = false) :
    E.call (d + 6) lim 49 [.agg C.toArray, i64 F, v] h = some (.tuple #[.bool false, i64 2], h) := by
  have gb : Heap.get (h.freeze ++ [some ⟨C, true⟩, some ⟨[.bool false], true⟩]) (h.length + 1) = some ⟨[.bool false], true⟩ := by rw [hget_base (by simp)]; rfl
  have k84 := fun lim => c84c (d := d) (lim := lim) t hs (SlBo1 gb) (by simp) h0 (by simp)
  refine call1 fn49 rfl (by simp [ef49]) ?_
  simp [ef49, t.len, t.take, c93, hf, k84, h0]
theorem c49c {d lim : Nat} {h : Heap} {C : List Value} {nm : ByteArray} {P S : Nat → Int} {F : Int} {v : Value} {l : List X4} (t : Tm C nm P S) (hs : nm.size ≤ 1000) (s : SlX h v l) (h0 : chkT nm P S = 0) (hf : isFork F = true) (hl : 100 < l.length) :
    E.call (d + 6) lim 49 [.agg C.toArray, i64 F, v] h = some (.tuple #[.bool false, i64 8], h) := by
  have gb : Heap.get (h.freeze ++ [some ⟨C, true⟩, some ⟨[.bool true], true⟩]) (h.length + 1) = some ⟨[.bool true], true⟩ := by rw [hget_base (by simp)]; rfl
  have k84 := fun lim => c84 (d := d) (lim := lim) t hs (SlBo1 gb) (by simp) h0 (by simp)
  have r := s.rules2
  have e : (100 : Int) < (l.length : Int) := by omega
  refine call1 fn49 rfl (by simp [ef49]) ?_
  simp [ef49, t.len, t.take, c93, hf, k84, h0, r, e, Int.not_le.2 e]
def befV (lo hi : Nat → Int) (i : Nat) : Int := if i = 0 then -1 else moV (lo (i - 1)) (hi (i - 1))
/-- What is asked of the beats of tests. -/
def BeatsAre (P S : Nat → Int) (F : Nat) (l : List X4) (lo hi : Nat → Int) : Prop :=
  ∀ i, i < l.length → ∀ (d lim : Nat) (h : Heap) (b : Nat) (rw : Bool), SlU h (.slice (some ⟨0, 0, none⟩) 3 1) [2, 3, 5] → h.get b = some ⟨circK P S, rw⟩ →
    E.call (d + 7) lim 94 [.pointer (some ⟨b, 0, none⟩), i64 F, xV (atX l i)] h = some (r3 (lo i, hi i, 0), h)
theorem c49 {d lim : Nat} {h : Heap} {C : List Value} {nm : ByteArray} {P S : Nat → Int} {F : Nat} {v : Value} {l : List X4} {lo hi : Nat → Int} (sp : SlU h (.slice (some ⟨0, 0, none⟩) 3 1) [2, 3, 5]) (t : Tm C nm P S) (hs : nm.size ≤ 1000) (s : SlX h v l) (h0 : chkT nm P S = 0)
    (hf : isFork F = true) (hl : l.length ≤ 100) (hb : chkL l 0 = 0 → BeatsAre P S F l lo hi) :
    E.call (d + 8) lim 49 [.agg C.toArray, i64 F, v] h = some (.tuple #[.bool (decide (chkL l 0 = 0) && riseB lo hi l.length), i64 (chkL l 0)], h) := by
  obtain ⟨o, _⟩ := okt h0
  have sp2 : ∀ L, SlU (h.freeze ++ L) (.slice (some ⟨0, 0, none⟩) 3 1) [2, 3, 5] := fun L => (Sl_freeze.2 sp).app L
  have gb : Heap.get (h.freeze ++ [some ⟨C, true⟩, some ⟨[.bool true], true⟩]) (h.length + 1) = some ⟨[.bool true], true⟩ := by rw [hget_base (by simp)]; rfl
  have k84 := fun lim => c84 (d := d + 2) (lim := lim) t hs (SlBo1 gb) (by simp) h0 (by simp)
  have kp := Cir.plain (K := circK P S) (P := P) (S := S) rfl
  have r := s.rules2
  have lw := s.low
  have nl : ¬ ((100 : Int) < (l.length : Int)) := by omega
  refine call1 fn49 rfl (by simp [ef49]) ?_
  simp only [List.length_append, Heap.length_freeze, List.length_cons, List.length_nil, List.append_assoc, List.cons_append, List.nil_append] at k84
  simp [ef49, t.len, t.take, c93, hf, k84, h0, r, nl, Int.not_lt.1 nl]
  rcases Nat.eq_zero_or_pos l.length with hz | hz
  · have e : l = [] := List.eq_nil_of_length_eq_zero hz
    subst e
    have e1 : chkL [] 0 = 0 := chkL_ge (by simp)
    have e2 : riseB lo hi 0 = true := rfl
    rcases lw with rfl | ⟨b, o', m, t', rfl, hb'⟩
    · simp [wpC_unroll, wpI_step, E_fuel, St.tidy, kp, e1, e2]
    · simp at r
      simp [wpC_unroll, wpI_step, E_fuel, St.tidy, kp, e1, e2, hb', r]
  · obtain ⟨b, o', rfl⟩ : ∃ b o, v = .slice (some ⟨b, o, none⟩) l.length 4 := ⟨_, _, s.addr (by omega)⟩
    have hb' := s.lt (by omega)
    simp only [slB_some, slO_some] at r hb'
    refine wpC_loop (fun q st => ∃ i : Nat, q = l.length - i ∧ i ≤ l.length ∧ chkL l i = chkL l 0 ∧ st = ⟨[(1, i64 F), (2, .slice (some ⟨b, o', none⟩) l.length 4), (8, .pointer (some ⟨h.length, 0, none⟩)), (36, .slice (some ⟨b, o', none⟩) l.length 4), (37, i64 l.length), (38, i64 i)], h.freeze ++ [some ⟨circK P S, true⟩]⟩) l.length (by show l.length < 2 ^ 64; omega) ?_ ?_
    · simp [St.tidy, kp, hb']
      exact ⟨0, by omega, by omega, rfl, rfl⟩
    · rintro q hq _ ⟨i, rfl, hi', hc, rfl⟩
      by_cases hlt : i < l.length
      · have w1' := w1 (i := i) (by omega)
        simp only [W] at w1'
        have k35 := fun lim hh => c35 (d := d + 5) (lim := lim) (h := hh) (n := (atX l i).1) (m := (atX l i).2.1) (p := (atX l i).2.2.1) (q := (atX l i).2.2.2)
        have k2 : i * 4 + 4 ≤ l.length * 4 := by omega
        have p1 := cX_part hlt
        have h4 : (i : Int) < l.length := by omega
        rw [chkL_lt hlt] at hc
        have eo : chkX (atX l i).1 (atX l i).2.1 (atX l i).2.2.1 (atX l i).2.2.2 = chkO (atX l i) := rfl
        rw [eo] at k35
        by_cases q0 : chkO (atX l i) = 0
        · rw [if_pos q0] at hc
          simp [hlt, h4, r, k2, p1, k35, q0, w1', St.tidy, kp, hb']
          exact ⟨l.length - (i + 1), by omega, i + 1, rfl, by omega, hc, rfl⟩
        · rw [if_neg q0] at hc
          rw [← hc]
          simp [hlt, h4, r, k2, p1, k35, q0]
      · obtain rfl : i = l.length := by omega
        rw [chkL_ge (by omega)] at hc
        rw [← hc]
        have B := hb hc.symm
        simp
        refine wpC_loop (fun q st => ∃ i : Nat, q = l.length - i ∧ i ≤ l.length ∧ (∀ j, 1 ≤ j → j < i → riB lo hi j = true) ∧ st = ⟨[(1, i64 F), (8, .pointer (some ⟨h.length, 0, none⟩)), (13, i64 (befV lo hi i)), (48, .slice (some ⟨b, o', none⟩) l.length 4), (49, i64 l.length), (50, i64 i)], h.freeze ++ [some ⟨circK P S, true⟩]⟩) l.length (by show l.length < 2 ^ 64; omega) ?_ ?_
        · simp [St.tidy, kp, hb']
          exact ⟨0, by omega, by omega, fun j h1 h2 => absurd h2 (by omega), rfl, rfl⟩
        · rintro q hq _ ⟨i, rfl, hi', ha, rfl⟩
          by_cases hlt : i < l.length
          · have w1' := w1 (i := i) (by omega)
            simp only [W] at w1'
            have gk : ∀ L, Heap.get (h.freeze ++ (some ⟨circK P S, true⟩ :: L)) h.length = some ⟨circK P S, true⟩ := fun L => by rw [hget_base0 (by simp)]; rfl
            have k94 := fun lim L => B i hlt d lim _ _ _ (sp2 _) (gk L)
            have k2 : i * 4 + 4 ≤ l.length * 4 := by omega
            have p1 := cX_part hlt
            have h4 : (i : Int) < l.length := by omega
            have bn : befV lo hi (i + 1) = moV (lo i) (hi i) := by unfold befV; rw [if_neg (by omega)]; simp
            by_cases q1 : leV (lo i) (hi i) ≤ befV lo hi i
            · have fal : riseB lo hi l.length = false := by
                by_cases e0 : i = 0
                · have := le_nonneg (lo i) (hi i)
                  unfold befV at q1; rw [if_pos e0] at q1; omega
                · refine riseB_false hlt e0 ?_
                  unfold befV at q1; rw [if_neg e0] at q1
                  unfold riB; simp; omega
              rw [fal]
              generalize befV lo hi i = b0 at *
              simp [h4, r, k2, p1, k94, c106, q1]
            · have nx : ∀ j, 1 ≤ j → j < i + 1 → riB lo hi j = true := fun j j1 j2 => by
                by_cases e : j = i
                · subst e
                  unfold befV at q1; rw [if_neg (by omega)] at q1
                  unfold riB; simp; omega
                · exact ha j j1 (by omega)
              generalize befV lo hi i = b0 at *
              simp [h4, r, k2, p1, k94, c106, q1, w1', St.tidy, kp, hb']
              exact ⟨l.length - (i + 1), by omega, i + 1, rfl, by omega, nx, bn.symm, rfl⟩
          · obtain rfl : i = l.length := by omega
            rw [riseB_true fun j j1 _ => ha j j1 (by omega)]
            simp
end T
end Go.Abs
