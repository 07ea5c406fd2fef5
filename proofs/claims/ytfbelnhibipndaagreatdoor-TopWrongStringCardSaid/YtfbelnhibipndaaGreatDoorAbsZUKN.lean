/- Chapter 7: what is heard: the program's, with a map; the law. -/
import Derived.Test.YtfbelnhibipndaaGreatDoorAbsZUKM
import Derived.Test.YtfbelnhibipndaaGreatDoorAbsZUAM
set_option linter.unusedSimpArgs false
set_option linter.unusedVariables false
/- Chapter 7: what is heard: the program's, with a map; the law. -/

namespace Go.Abs
namespace Z.U
set_option maxRecDepth 100000
set_option maxHeartbeats 0
def ekI (x : Int) : Value := i64 x
def evR (x : P2) : Value := .agg #[i64 x.1, i64 x.2]
def mp (s : List P3) (k : Nat) : List (Int × P2) := (List.range k).map fun i => ((at3 s i).1, (at3 s i).2.1, (at3 s i).2.2)
theorem mp_succ (s : List P3) (k : Nat) : mp s (k + 1) = mp s k ++ [((at3 s k).1, (at3 s k).2.1, (at3 s k).2.2)] := by simp [mp, List.range_succ]
theorem mp_no (s : List P3) (k : Nat) : (encMap ekI evR (mp s k)).all (lowV 0 4) = true := encMap_no (fun _ => rfl) (fun v => by simp [evR, lowV]) _
theorem mp_look (s : List P3) (n : Int) : ∀ k, (∀ j, j < k → (at3 s j).1 ≠ n) → mLook (mp s k) n = none
  | 0, _ => rfl
  | k + 1, h => by
    rw [mp_succ, mLook_snoc, mp_look s n k (fun j hj => h j (by omega))]
    rw [if_neg (fun e => h k (by omega) e.symm)]
theorem mp_found (s : List P3) (n : Int) {i : Nat} (hi : (at3 s i).1 = n) (hb : ∀ j, j < i → (at3 s j).1 ≠ n) : ∀ k, i < k → mLook (mp s k) n = some ((at3 s i).2.1, (at3 s i).2.2)
  | 0, h => by omega
  | k + 1, h => by
    rw [mp_succ, mLook_snoc]
    by_cases z : i < k
    · rw [mp_found s n hi hb k z]
    · obtain rfl : i = k := by omega
      rw [mp_look s n i hb, if_pos hi.symm]
theorem mp_snd (s : List P3) (n : Int) : mLook (mp s s.length) n = if sndB s n = true then some (sndV s n) else none := by
  obtain ⟨a1, a2, a3, a4⟩ := fstI_spec (p := fun k => decide ((at3 s k).1 = n)) (n := s.length) _ 0 rfl (by omega)
  have e : fstI (fun k => decide ((at3 s k).1 = n)) s.length 0 = fndS s n := rfl
  rw [e] at a1 a2 a3 a4
  unfold sndB sndV
  simp only [decide_eq_true_eq] at a3
  have a4' : ∀ j, j < fndS s n → (at3 s j).1 ≠ n := fun j hj => by have := a4 j (by omega) hj; simpa using this
  by_cases z : fndS s n < s.length
  · rw [if_pos z, if_pos (by simpa using z)]
    exact mp_found s n (a3 z) a4' _ z
  · rw [if_neg (by simpa using z)]
    exact mp_look s n _ (fun j hj => a4' j (by omega))
theorem snd_asc {s : List P3} (h : chkS s = 0) : ∀ (k i : Nat), i + k + 1 < s.length → (at3 s i).1 < (at3 s (i + k + 1)).1 := by
  have st : ∀ i, i + 1 < s.length → (at3 s i).1 < (at3 s (i + 1)).1 := fun i hi => by
    unfold chkS at h
    by_cases q : 88 < s.length
    · rw [if_pos q] at h; cases h
    rw [if_neg q, fstE_all _ 0 rfl] at h
    have := h (i + 1) (by omega) hi
    unfold sErr at this
    by_cases y : within (at3 s (i + 1)).1 0 87 = true ∧ within (at3 s (i + 1)).2.1 1 20000000 = true ∧ within (at3 s (i + 1)).2.2 1 20000000 = true
    · rw [if_pos y] at this
      by_cases z : (at3 s (i + 1)).2.2 < (at3 s (i + 1)).2.1 ∨ 0 < i + 1 ∧ (at3 s (i + 1)).1 ≤ (at3 s (i + 1 - 1)).1
      · rw [if_pos z] at this; cases this
      · rw [not_or] at z
        rw [show i + 1 - 1 = i by omega] at z
        have := z.2
        have h0 : 0 < i + 1 := by omega
        omega
    · rw [if_neg y] at this; cases this
  intro k
  induction k with
  | zero => intro i hi; exact st i hi
  | succ k ih =>
    intro i hi
    have a := ih i (by omega)
    have b := st (i + k + 1) (by omega)
    rw [show i + (k + 1) + 1 = i + k + 1 + 1 by omega]; omega
theorem mp_new {s : List P3} (h : chkS s = 0) {k : Nat} (hk : k < s.length) : mLook (mp s k) (at3 s k).1 = none := mp_look s _ k fun j hj e => by
  have := snd_asc h (k - j - 1) j (by omega)
  rw [show j + (k - j - 1) + 1 = k by omega] at this; omega
theorem c67 {d lim : Nat} {h : Heap} {v w : Value} {g : List P3} {l : List P4} (s : Sl3 h v g) (t : Sl4 h w l) :
    E.call (d + 5) lim 67 [v, w] h = some (hVal g l h.length, h ++ hBlk g l) := by
  have r := s.rules2
  have r' := t.rules2
  have k80 := fun lim => c107 (d := d + 1) (lim := lim) (Sl_freeze.2 s)
  have k59 := fun lim => c11 (d := d) (lim := lim) (Sl_freeze.2 t)
  refine call_pure fn67 rfl (by simp [ef67]) ?_
  unfold hVal hBlk
  by_cases q0 : chkS g = 0
  case neg =>
    rw [show hErr g l = chkS g by unfold hErr; rw [if_neg q0]]
    simp [ef67, k80, q0]
  by_cases q1 : chkTs l = 0
  case neg =>
    rw [show hErr g l = chkTs l by unfold hErr; rw [if_pos q0, if_neg q1]]
    simp [ef67, k80, k59, q0, q1]
  have O := TOk.of q1
  have gl : g.length ≤ 88 := by
    unfold chkS at q0
    by_cases z : 88 < g.length
    · rw [if_pos z] at q0; cases q0
    · omega
  have eE : hErr g l = fstE (miss g l) l.length 0 := by unfold hErr; rw [if_pos q0, if_pos q1]
  generalize hErr g l = Er at *
  have ol := O.len
  simp [ef67, k80, k59, q0, q1, r]
  refine wpC_loop (fun z st => ∃ i : Nat, z = g.length - i ∧ i ≤ g.length ∧ st = ⟨[(1, w), (8, .map (some h.length)), (29, v), (30, i64 (g.length : Int)), (31, i64 (i : Int))], h.freeze ++ [some ⟨encMap ekI evR (mp g i), true⟩]⟩) g.length (by show g.length < 2 ^ 64; omega) ?_ ?_
  · simp [-collect_own1, St.tidy, collect_box, s.own, t.own, r, r']
    exact ⟨0, by omega, by omega, by simp [mp, encMap]⟩
  · rintro z hz _ ⟨i, rfl, hi, rfl⟩
    by_cases hlt : i < g.length
    · have hlti : (i : Int) < g.length := by omega
      have w1' := w1 (i := i) (by omega)
      have p := c3_part hlt
      have k3 : i * 3 + 3 ≤ g.length * 3 := by omega
      have mno := mp_no g i
      have mno1 := mp_no g (i + 1)
      have mput : ∀ x, E.mapPut (i64 (at3 g i).1) x (encMap ekI evR (mp g i)) = some (encMap ekI evR (mp g i) ++ [.tuple #[i64 (at3 g i).1, x]]) := fun x => mapPut_new (ek := ekI) (fun a b => sameKey_i64 a b) (mp_new q0 hlt) x
      have msn : encMap ekI evR (mp g i) ++ [.tuple #[i64 (at3 g i).1, .agg #[i64 (at3 g i).2.1, i64 (at3 g i).2.2]]] = encMap ekI evR (mp g (i + 1)) := by rw [mp_succ, ← encMap_snoc]; rfl
      simp [-collect_own1, hlti, hlt, Nat.not_le.2 hlt, r, r', p, k3, mput, msn, w1', St.tidy, collect_box, s.own, t.own, mno, mno1]
      exact ⟨g.length - (i + 1), by omega, i + 1, by omega, by omega, by omega, rfl⟩
    · obtain rfl : i = g.length := by omega
      have mno := mp_no g g.length
      have mget : ∀ n, E.mapVal (i64 n) (encMap ekI evR (mp g g.length)) = some ((if sndB g n = true then some (sndV g n) else none).map evR) := fun n => by
        have := mapVal_enc (ek := ekI) (ev := evR) (fun a b => sameKey_i64 a b) (mp g g.length) n
        rw [mp_snd] at this; exact this
      generalize encMap ekI evR (mp g g.length) = M at *
      simp [r']
      refine wpC_loop (fun z st => ∃ i : Nat, z = l.length - i ∧ i ≤ l.length ∧ fstE (miss g l) l.length i = Er ∧ st = ⟨[(8, .map (some h.length)), (11, sl6 (h.length + 1) i), (41, w), (42, i64 (l.length : Int)), (43, i64 (i : Int))], h.freeze ++ ([some ⟨M, true⟩] ++ bl6 (hL g l i))⟩) l.length (by show l.length < 2 ^ 64; omega) ?_ ?_
      · simp [-collect_own1, St.tidy, collect_box, s.own, t.own, r, r', mno]
        exact ⟨0, by omega, by omega, eE.symm, by simp [sl6, bl6, hL]⟩
      · rintro z hz _ ⟨i, rfl, hi, hc, rfl⟩
        by_cases hlt : i < l.length
        · have hlti : (i : Int) < l.length := by omega
          have w1' := w1 (i := i) (by omega)
          have p4 := c4_part hlt
          have k4 : i * 4 + 4 ≤ l.length * 4 := by omega
          have hnx := hL_next g l i
          have hln := hL_len g l i
          have hln1 := hL_len g l (i + 1)
          obtain ⟨b1, b2, b3, b4⟩ := hr_bd q0 O hlt
          have ga := mget (at4 l i).1
          have gb := mget (at4 l i).2.1
          have eh : enc6 (hrd g l i) = [i64 (at4 l i).1, i64 (at4 l i).2.1, i64 (at4 l i).2.2.1, i64 (at4 l i).2.2.2, i64 ((at4 l i).2.2.2 * (sndV g (at4 l i).2.1).1 - (at4 l i).2.2.1 * (sndV g (at4 l i).1).2), i64 ((at4 l i).2.2.2 * (sndV g (at4 l i).2.1).2 - (at4 l i).2.2.1 * (sndV g (at4 l i).1).1)] := rfl
          rw [eh] at hnx
          rw [fstE_lt hlt] at hc
          generalize hA : (at4 l i).2.2.2 * (sndV g (at4 l i).2.1).1 = A at *
          generalize hB : (at4 l i).2.2.1 * (sndV g (at4 l i).1).2 = B at *
          generalize hC : (at4 l i).2.2.2 * (sndV g (at4 l i).2.1).2 = C at *
          generalize hD : (at4 l i).2.2.1 * (sndV g (at4 l i).1).1 = D at *
          have wA : IntKind.wrap .i64 A = A := wrap_eq (by omega) (by omega)
          have wB : IntKind.wrap .i64 B = B := wrap_eq (by omega) (by omega)
          have wC : IntKind.wrap .i64 C = C := wrap_eq (by omega) (by omega)
          have wD : IntKind.wrap .i64 D = D := wrap_eq (by omega) (by omega)
          have wAB : IntKind.wrap .i64 (A - B) = A - B := wrap_eq (by omega) (by omega)
          have wCD : IntKind.wrap .i64 (C - D) = C - D := wrap_eq (by omega) (by omega)
          have s0 : slAt 4 w (i64 0) = some (.pointer (some ⟨slB w, slO w, none⟩)) := by have := t.at (k := .i64) (i := 0) (by omega) (by omega); simpa using this
          have pp : ∀ L, Heap.part (h.freeze ++ L) (slB w) (slO w) 4 = some (.agg #[i64 (at4 l 0).1, i64 (at4 l 0).2.1, i64 (at4 l 0).2.2.1, i64 (at4 l 0).2.2.2]) := by
            intro L
            have := ((Sl_freeze.2 t).app L).part (k := 0) (m := 4) (by omega) (by decide)
            rw [Nat.add_zero] at this
            rw [this, show (0 : Nat) = 0 * 4 from rfl, c4_part (by omega)]
          have c1 := c6_one (hL g l i)
          have cl := c6_len (hL g l i)
          have cp := c6_plain (hL g l (i + 1))
          have cp0 := c6_plain (hL g l i)
          rw [hln] at cl
          by_cases e1 : sndB g (at4 l i).1 = true
          case neg =>
            rw [show miss g l i = 6 by unfold miss; rw [if_neg (fun z => e1 z.1)], if_neg (by decide)] at hc
            subst hc
            rw [if_neg e1] at ga
            rcases Nat.eq_zero_or_pos i with z0 | z0
            · subst z0
              by_cases e2 : sndB g (at4 l 0).2.1 = true
              · rw [if_pos e2] at gb
                simp [sl6, bl6, hln, s0, pp, hlt, r, r', ga, gb, evR]
              · rw [if_neg e2] at gb
                simp [sl6, bl6, hln, s0, pp, hlt, r, r', ga, gb, evR]
            · have n0 : i ≠ 0 := by omega
              by_cases e2 : sndB g (at4 l i).2.1 = true
              · rw [if_pos e2] at gb
                simp [sl6, bl6, hln, n0, hlti, hlt, Nat.not_le.2 hlt, p4, k4, r, r', ga, gb, evR]
              · rw [if_neg e2] at gb
                simp [sl6, bl6, hln, n0, hlti, hlt, Nat.not_le.2 hlt, p4, k4, r, r', ga, gb, evR]
          by_cases e2 : sndB g (at4 l i).2.1 = true
          case neg =>
            rw [show miss g l i = 6 by unfold miss; rw [if_neg (fun z => e2 z.2)], if_neg (by decide)] at hc
            subst hc
            rw [if_pos e1] at ga
            rw [if_neg e2] at gb
            rcases Nat.eq_zero_or_pos i with z0 | z0
            · subst z0
              simp [sl6, bl6, hln, s0, pp, hlt, r, r', ga, gb, evR]
            · have n0 : i ≠ 0 := by omega
              simp [sl6, bl6, hln, n0, hlti, hlt, Nat.not_le.2 hlt, p4, k4, r, r', ga, gb, evR]
          rw [show miss g l i = 0 by unfold miss; rw [if_pos ⟨e1, e2⟩], if_pos rfl] at hc
          rw [if_pos e1] at ga
          rw [if_pos e2] at gb
          rcases Nat.eq_zero_or_pos i with z0 | z0
          · subst z0
            rw [show cS enc6 (hL g l 0) = [] from rfl, List.nil_append] at hnx
            simp [-collect_own1, sl6, bl6, hln, s0, pp, hlt, r, r', ga, gb, evR, hA, hB, hC, hD, wA, wB, wC, wD, wAB, wCD, fillL, zeros, E.append, E.added, w1', St.tidy, collect_box, s.own, t.own, mno]
            exact ⟨by decide, l.length - 1, by omega, 1, by omega, by omega, hc, ⟨rfl, rfl⟩, by rw [if_neg (fun z => by rw [z] at hln1; cases hln1)]; exact congrArg (fun c => [some (Blk.mk c true)]) hnx⟩
          · have n0 : i ≠ 0 := by omega
            simp [-collect_own1, sl6, bl6, hln, n0, hlti, hlt, Nat.not_le.2 hlt, r, r', p4, k4, ga, gb, evR, hA, hB, hC, hD, wA, wB, wC, wD, wAB, wCD, fillL, zeros, E.append, E.added, cl, hnx, cp, w1', St.tidy, collect_box, s.own, t.own, mno]
            refine ⟨⟨by omega, by unfold maxLen; omega⟩, l.length - (i + 1), by omega, i + 1, by omega, by omega, hc, ⟨by rw [if_neg (by omega)], by omega⟩, ?_⟩
            rw [if_neg (fun z => by rw [z] at hln1; cases hln1)]
        · obtain rfl : i = l.length := by omega
          rw [fstE_ge (by omega)] at hc
          subst hc
          have cp := c6_plain (hL g l l.length)
          have hln := hL_len g l l.length
          by_cases zl : l.length = 0
          · have e0 : hL g l 0 = [] := rfl
            simp [r, r', sl6, bl6, zl, e0]
          · simp [r, r', sl6, bl6, zl, cp, hln]
end Z.U
end Go.Abs
/- Chapter 7: lists of numbers: copied, compared, searched. -/
namespace Go.Abs
namespace Z.U
set_option maxRecDepth 100000
set_option maxHeartbeats 0
theorem c23 {d lim : Nat} {h : Heap} {v w : Value} {a b : List Int} (s : SlI' h v a) (t : SlI' h w b) (hl : a.length ≤ 100000) (hl2 : b.length ≤ 100000) : E.call (d + 1) lim 23 [v, w] h = some (.bool (decide (a = b)), h) := by
  have r := s.rules2
  have r' := t.rules2
  refine call1 fn23 rfl (by simp [ef23]) ?_
  by_cases hn : a.length = b.length
  case neg =>
    have hn' : ¬ (a.length : Int) = (b.length : Int) := by omega
    have : decide (a = b) = false := by
      rw [decide_eq_false_iff_not]; rintro rfl; exact hn rfl
    rw [this]
    simp [ef23, r, r', hn, hn']
  simp [ef23, r, r', hn]
  refine wpC_loop (fun q st => ∃ i : Nat, q = a.length - i ∧ i ≤ a.length ∧ (∀ j, j < i → a[j]? = b[j]?) ∧ st = ⟨[(0, v), (1, w), (5, i64 (i : Int))], h.freeze⟩) a.length (by show a.length < 2 ^ 64; omega) ?_ ?_
  · simp [St.tidy, r, r']
    exact ⟨0, by omega, by omega, fun j hj => by omega, rfl⟩
  · rintro q hq _ ⟨i, rfl, hi, hc, rfl⟩
    by_cases hlt : i < a.length
    · have hlt2 : i < b.length := by omega
      have w1' := w1 (i := i) (by omega)
      have h4 : (i : Int) < b.length := by omega
      have ca : ∀ hh, (cI a)[i]'hh = i64 a[i] := fun hh => by simp [cI]
      have cb : ∀ hh, (cI b)[i]'hh = i64 b[i] := fun hh => by simp [cI]
      have ha := cI_at a hlt
      have hb := cI_at b hlt2
      by_cases q1 : a[i] = b[i]
      · simp [hlt, hlt2, Nat.not_le.2 hlt2, h4, r, r', hn, ca, cb, q1, w1', St.tidy]
        refine ⟨b.length - (i + 1), by omega, i + 1, by omega, by omega, fun j hj => ?_, by omega⟩
        rcases Nat.lt_or_ge j i with z | z
        · exact hc j z
        · obtain rfl : j = i := by omega
          rw [List.getElem?_eq_getElem hlt, List.getElem?_eq_getElem hlt2, q1]
      · have : ¬ a = b := by rintro rfl; exact q1 rfl
        simp [hlt, hlt2, Nat.not_le.2 hlt2, h4, r, r', hn, ca, cb, q1, this]
    · have hab : a = b := by
        apply List.ext_getElem?
        intro j
        rcases Nat.lt_or_ge j i with z | z
        · exact hc j z
        · rw [List.getElem?_eq_none (by omega), List.getElem?_eq_none (by omega)]
      obtain rfl : i = a.length := by omega
      subst hab
      simp [r, r']
theorem c123 {d lim g : Nat} {h : Heap} {v : Value} {l : List Int} {p : Int → Bool} {ca : Array Value} (s : SlI' h v l) (hl : l.length ≤ 100000) (hlow : ca.toList.all (lowV h.length 3) = true) (hfew : (ca.toList.map (fewV 3)).sum ≤ 9)
    (hp : ∀ lim x, E.call d lim g ([i64 x] ++ ca.toList) h.freeze = some (.bool (p x), h.freeze)) :
    E.call (d + 1) lim 123 [v, .func (.func g) #[] ca] h = some (i64 (if fstI (fun i => p (l.getD i 0)) l.length 0 < l.length then (fstI (fun i => p (l.getD i 0)) l.length 0 : Int) else -1), h) := by
  have r := s.rules2
  refine call1 fn123 rfl (by simp [ef123]) ?_
  generalize hI : fstI (fun i => p (l.getD i 0)) l.length 0 = I
  have hlow' : ∀ x ∈ ca, lowV h.length 3 x = true := fun x hx => List.all_eq_true.1 hlow x (by simpa using hx)
  have hfew' : (ca.toList.map (fewV 3)).sum ≤ 9 := hfew
  have hp' : ∀ lim x, E.call d lim g (i64 x :: ca.toList) h.freeze = some (.bool (p x), h.freeze) := hp
  simp [ef123, r]
  refine wpC_loop (fun q st => ∃ i : Nat, q = l.length - i ∧ i ≤ l.length ∧ fstI (fun i => p (l.getD i 0)) l.length i = I ∧ st = ⟨[(0, v), (1, .func (.func g) #[] ca), (7, i64 (l.length : Int)), (8, i64 (i : Int))], h.freeze⟩) l.length (by show l.length < 2 ^ 64; omega) ?_ ?_
  · have := collect_low2 (n := h.length) (vs := [v, .func (.func g) #[] ca, i64 (l.length : Int), i64 0]) (h := h.freeze) (by simp [r]; exact fun i hi => hlow' _ (Array.getElem_mem hi)) (by simp [r]; exact hfew') (by simp)
    simp [St.tidy, this]
    exact ⟨0, by omega, by omega, hI, rfl⟩
  · rintro q hq _ ⟨i, rfl, hi, hc2, rfl⟩
    by_cases hlt : i < l.length
    · have w1' := w1 (i := i) (by omega)
      have hlti : (i : Int) < l.length := by omega
      have ca' : ∀ hh, (cI l)[i]'hh = i64 l[i] := fun hh => by simp [cI]
      have gd : l.getD i 0 = l[i] := by rw [List.getD_eq_getElem?_getD, List.getElem?_eq_getElem hlt]; rfl
      rw [fstI_lt hlt, gd] at hc2
      by_cases q1 : p l[i] = true
      · rw [if_pos q1] at hc2
        subst hc2
        simp [hlti, hlt, Nat.not_le.2 hlt, r, ca', hp', q1]
      · rw [if_neg q1] at hc2
        have := collect_low2 (n := h.length) (vs := [v, .func (.func g) #[] ca, i64 (l.length : Int), i64 ((i + 1 : Nat) : Int)]) (h := h.freeze) (by simp [r]; exact fun i hi => hlow' _ (Array.getElem_mem hi)) (by simp [r]; exact hfew') (by simp)
        simp only [Int.natCast_add, Int.cast_ofNat_Int] at this
        simp [hlti, hlt, Nat.not_le.2 hlt, r, ca', hp', q1, w1', St.tidy, this]
        exact ⟨l.length - (i + 1), by omega, i + 1, by omega, by omega, hc2, by omega⟩
    · obtain rfl : i = l.length := by omega
      rw [fstI_ge (by omega)] at hc2
      subst hc2
      simp [r]
theorem fstI_any {p : Nat → Bool} {n : Nat} : decide (fstI p n 0 < n) = (List.range n).any p := by
  obtain ⟨_, _, a, b⟩ := fstI_spec (p := p) (n := n) _ 0 rfl (by omega)
  rw [Bool.eq_iff_iff]
  simp only [decide_eq_true_eq, List.any_eq_true, List.mem_range]
  constructor
  · intro h; exact ⟨_, h, a h⟩
  · rintro ⟨x, hx, hp⟩
    rcases Nat.lt_or_ge (fstI p n 0) n with z | z
    · exact z
    · have := b x (by omega) (by omega); rw [this] at hp; cases hp
theorem any_getD (l : List Int) (p : Int → Bool) : ((List.range l.length).any fun i => p (l.getD i 0)) = l.any p := by
  rw [Bool.eq_iff_iff]
  simp only [List.any_eq_true, List.mem_range]
  constructor
  · rintro ⟨i, hi, hp⟩
    refine ⟨l[i], List.getElem_mem hi, ?_⟩
    rw [List.getD_eq_getElem?_getD, List.getElem?_eq_getElem hi] at hp; exact hp
  · rintro ⟨x, hx, hp⟩
    obtain ⟨i, hi, rfl⟩ := List.getElem_of_mem hx
    exact ⟨i, hi, by rw [List.getD_eq_getElem?_getD, List.getElem?_eq_getElem hi]; exact hp⟩
/-- Whether a number of a list has a property. -/
theorem c112 {d lim g : Nat} {h : Heap} {v : Value} {l : List Int} {p : Int → Bool} {ca : Array Value} (s : SlI' h v l) (hl : l.length ≤ 100000) (hlow : ca.toList.all (lowV h.length 3) = true) (hfew : (ca.toList.map (fewV 3)).sum ≤ 9)
    (hp : ∀ lim x, E.call d lim g ([i64 x] ++ ca.toList) h.freeze = some (.bool (p x), h.freeze)) : E.call (d + 2) lim 112 [v, .func (.func g) #[] ca] h = some (.bool (l.any p), h) := by
  have k := fun lim => c123 (d := d) (lim := lim) (h := h.freeze) (Sl_freeze.2 s) hl (by simpa using hlow) hfew (by rw [freeze_freeze]; exact hp)
  refine call1 fn112 rfl (by simp [ef112]) ?_
  have e := fstI_any (p := fun i => p (l.getD i 0)) (n := l.length)
  rw [any_getD] at e
  rw [← e]
  generalize fstI (fun i => p (l.getD i 0)) l.length 0 = I at *
  by_cases q : I < l.length
  · simp [ef112, k, q]
  · simp [ef112, k, q]
def gI (g : List Int) (i : Nat) : Int := g.getD i 0
theorem gI_eq {g : List Int} {i : Nat} (h : i < g.length) : gI g i = g[i] := by unfold gI; rw [List.getD_eq_getElem?_getD, List.getElem?_eq_getElem h]; rfl
end Z.U
end Go.Abs
/- Chapter 7: climates: checked, searched. -/
namespace Go.Abs
namespace Z.U
set_option maxRecDepth 100000
set_option maxHeartbeats 0
theorem wrapU2 {n : Int} (h0 : 0 ≤ n) (h : n < 18446744073709551616) : IntKind.wrap .u64 n = n := by
  have e : IntKind.wrap .u64 n = n % 18446744073709551616 := by simp [IntKind.wrap, IntKind.bits, IntKind.signed]
  rw [e]; exact Int.emod_eq_of_lt h0 h
theorem bin_shr1 (a : Int) : E.bin .shr (.int .u64 a) (.int .u64 1) = some (.int .u64 (a / 2)) := by
  show semPure (binOp .shr 0 (.int .u64 a) (.int .u64 1)) = _
  rw [show binOp .shr 0 (.int .u64 a) (.int .u64 1) = Op.shift .shr .u64 a .u64 1 by simp [binOp]]
  simp [Op.shift, semPure]
  have e : a.fdiv (2 ^ min 1 IntKind.u64.bits) = a / 2 := by
    rw [show ((2 : Int) ^ min 1 IntKind.u64.bits) = 2 from rfl]
    exact Int.fdiv_eq_ediv_of_nonneg a (by decide)
  rw [e]; rfl
def cErr (l : List P2) (i : Nat) : Int := if within (at2 l i).1 0 100000 = true ∧ within (at2 l i).2 0 1000 = true then (if 0 < i ∧ (at2 l i).1 ≤ (at2 l (i - 1)).1 then 9 else 0) else 2
def chkC (l : List P2) : Int := if l.length = 0 then 12 else if 200 < l.length then 8 else fstE (cErr l) l.length 0
/-- The readings are right. -/
structure COk (l : List P2) : Prop where
  pos : 0 < l.length
  len : l.length ≤ 200
  day : ∀ i, i < l.length → 0 ≤ (at2 l i).1 ∧ (at2 l i).1 ≤ 100000
  hum : ∀ i, i < l.length → 0 ≤ (at2 l i).2 ∧ (at2 l i).2 ≤ 1000
  asc : ∀ i, i + 1 < l.length → (at2 l i).1 < (at2 l (i + 1)).1
theorem within_iffC {a b c : Int} : within a b c = true ↔ b ≤ a ∧ a ≤ c := by simp [within]
theorem COk.of {l : List P2} (h : chkC l = 0) : COk l := by
  unfold chkC at h
  split at h
  · contradiction
  · rename_i h0
    split at h
    · contradiction
    · rename_i h200
      have k := (fstE_all _ 0 rfl).1 h
      have a : ∀ i, i < l.length → within (at2 l i).1 0 100000 = true ∧ within (at2 l i).2 0 1000 = true ∧ ¬ (0 < i ∧ (at2 l i).1 ≤ (at2 l (i - 1)).1) := fun i hi => by
        have := k i (by omega) hi
        unfold cErr at this
        split at this
        · rename_i q
          split at this
          · contradiction
          · rename_i q2; exact ⟨q.1, q.2, q2⟩
        · contradiction
      refine ⟨by omega, by omega, fun i hi => within_iffC.1 (a i hi).1, fun i hi => within_iffC.1 (a i hi).2.1, fun i hi => ?_⟩
      have := (a (i + 1) hi).2.2
      simp only [Nat.add_sub_cancel] at this
      omega
theorem COk.lt {l : List P2} (O : COk l) : ∀ (k i : Nat), i + k + 1 < l.length → (at2 l i).1 < (at2 l (i + k + 1)).1
  | 0, i, h => O.asc i h
  | k + 1, i, h => by
    have := O.lt k i (by omega)
    have := O.asc (i + k + 1) (by omega)
    rw [show i + (k + 1) + 1 = i + k + 1 + 1 by omega]; omega
theorem COk.mono {l : List P2} (O : COk l) {i j : Nat} (h : i < j) (hj : j < l.length) : (at2 l i).1 < (at2 l j).1 := by
  have := O.lt (j - i - 1) i (by omega)
  rwa [show i + (j - i - 1) + 1 = j by omega] at this
theorem c200 {d lim : Nat} {h : Heap} {a : Int} : E.call (d + 1) lim 200 [i64 a] h = some (.bool false, h) := by
  refine call1 fn200 rfl (by simp [ef200]) ?_
  simp [ef200]
end Z.U
end Go.Abs
