/- Chapter 7: what is predicted of tests. -/
import Derived.Test.YtfbelnhibipndaaGreatDoorAbsZEM
import Derived.Test.YtfbelnhibipndaaGreatDoorAbsZUJM
import Derived.Test.YtfbelnhibipndaaGreatDoorAbsZUKM
import Derived.Test.YtfbelnhibipndaaGreatDoorAbsWpN
set_option linter.unusedSimpArgs false
set_option linter.unusedVariables false
/- Chapter 7: what is predicted of tests. -/
namespace Go.Abs
namespace Z.U
set_option maxRecDepth 100000
set_option maxHeartbeats 0
set_option linter.unusedSimpArgs false
theorem chkX_eq (n m p q : Int) : U.chkX n m p q = Z.chkX n m p q := by
  have a := Z.c47 (d := 1) (lim := 0) (h := []) (n := n) (m := m) (p := p) (q := q)
  have b := U.c47 (d := 0) (lim := 0) (h := []) (n := n) (m := m) (p := p) (q := q)
  have e := Option.some.inj (b.symm.trans a)
  have e2 := (Prod.mk.inj e).1
  exact (Value.int.inj e2).2
/-- The error of a temperament and a fork. -/
def tuE (nm : ByteArray) (P S : Nat → Int) (F : Int) : Int := if chkT nm P S = 0 then (if isFork F = true then 0 else 2) else chkT nm P S
theorem wi_eq (a b c : Int) : U.within a b c = Z.within a b c := rfl
theorem c50 {d lim : Nat} {h : Heap} {C : List Value} {nm : ByteArray} {P S : Nat → Int} {F : Int} (t : Tm C nm P S) (hs : nm.size ≤ 1000) : E.call (d + 5) lim 50 [.agg C.toArray, i64 F] h = some (i64 (tuE nm P S F), h) := by
  have k88 := fun lim hh => Z.c88 (d := d) (lim := lim) (h := hh) t hs
  have k54 := fun lim hh => U.c54 (d := d + 3) (lim := lim) (h := hh) (a := F) (b := 1) (c := 1000000)
  refine call1 fn50 rfl (by simp [ef50]) ?_
  unfold tuE isFork
  by_cases q0 : chkT nm P S = 0
  case neg => simp [ef50, t.len, t.take, k88, q0]
  by_cases q1 : within F 1 1000000 = true
  · have q2 := wi_eq F 1 1000000 ▸ q1
    simp [ef50, t.len, t.take, k88, q0, k54, q1, q2]
  · have q2 := wi_eq F 1 1000000 ▸ q1
    simp [ef50, t.len, t.take, k88, q0, k54, q1, q2]
/-- The ranges of the first tests. -/
def bl (bt : Nat → Int × Int) : Nat → List Value
  | 0 => []
  | k + 1 => bl bt k ++ [i64 (bt k).1, i64 (bt k).2]
end Z.U
end Go.Abs
/- Chapter 7: counts: their check. -/
namespace Go.Abs
namespace Z.U
set_option maxRecDepth 100000
set_option maxHeartbeats 0
set_option linter.unusedSimpArgs false
abbrev Sl6 (h : Heap) (v : Value) (l : List P6) : Prop := Sl 6 h v l.length (cS enc6 l)
def at6 (l : List P6) (i : Nat) : P6 := (l[i]?).getD ((0, 0, 0, 0), (0, 0))
def tsL (l : List P6) : List P4 := l.map (·.1)
theorem c6_part {l : List P6} {i : Nat} (h : i < l.length) : ((cS enc6 l).drop (i * 6)).take 6 = enc6 (at6 l i) := by
  rw [cS_part (f := enc6) (es := 6) (fun _ => rfl) l i h]
  unfold at6; rw [List.getElem?_eq_getElem h]; rfl
/-- The error of a range of beats. -/
def rErr (r : P2) : Int := if within r.1 (-1000000000) 1000000000 = true ∧ within r.2 (-1000000000) 1000000000 = true then (if r.2 < r.1 then 9 else 0) else 2
def ctErr (l : List P6) (i : Nat) : Int := if chkX (at6 l i).1.1 (at6 l i).1.2.1 (at6 l i).1.2.2.1 (at6 l i).1.2.2.2 = 0 then (if has4 ((tsL l).take i) (at6 l i).1 = true then 5 else rErr (at6 l i).2) else chkX (at6 l i).1.1 (at6 l i).1.2.1 (at6 l i).1.2.2.1 (at6 l i).1.2.2.2
def chkN (l : List P6) : Int := if 60 < l.length then 8 else fstE (ctErr l) l.length 0
def ekT (x : P4) : Value := .agg #[i64 x.1, i64 x.2.1, i64 x.2.2.1, i64 x.2.2.2]
def evB (b : Bool) : Value := .bool b
theorem same_ekT (a b : P4) : E.sameKey (ekT a) (ekT b) = some (decide (a = b)) := by
  obtain ⟨a1, a2, a3, a4⟩ := a
  obtain ⟨b1, b2, b3, b4⟩ := b
  simp only [E.sameKey, ekT, E.cellsSame, if_true, Option.map_some]
  congr 1
  rw [Bool.eq_iff_iff]
  simp [Prod.ext_iff]
def knL (l : List P6) (i : Nat) : List (P4 × Bool) := ((tsL l).take i).map fun x => (x, true)
theorem look_map (k : P4) : ∀ L : List P4, mLook (L.map fun x => (x, true)) k = if k ∈ L then some true else none
  | [] => rfl
  | x :: L => by
    rw [List.map_cons]
    unfold mLook
    by_cases q : k = x
    · rw [if_pos q, if_pos (by simp [q])]
    · rw [if_neg q, look_map k L]
      by_cases z : k ∈ L
      · rw [if_pos z, if_pos (by simp [z])]
      · rw [if_neg z, if_neg (by simp [z, q])]
theorem mem_at4 {L : List P4} {x : P4} : x ∈ L ↔ ∃ k, k < L.length ∧ at4 L k = x := by
  constructor
  · intro h
    obtain ⟨k, hk, e⟩ := List.getElem_of_mem h
    exact ⟨k, hk, by rw [← at4_get hk, e]⟩
  · rintro ⟨k, hk, rfl⟩
    rw [← at4_get hk]; exact List.getElem_mem hk
theorem kn_look (l : List P6) (i : Nat) (k : P4) : mLook (knL l i) k = if has4 ((tsL l).take i) k = true then some true else none := by
  unfold knL
  rw [look_map]
  by_cases z : k ∈ (tsL l).take i
  · rw [if_pos z, if_pos (has4_iff.2 (mem_at4.1 z))]
  · rw [if_neg z, if_neg fun y => z (mem_at4.2 (has4_iff.1 y))]
theorem kn_succ {l : List P6} {i : Nat} (h : i < l.length) : knL l i ++ [((at6 l i).1, true)] = knL l (i + 1) := by
  unfold knL
  rw [List.take_add_one, List.map_append]
  congr 1
  have : (tsL l)[i]? = some (at6 l i).1 := by
    unfold tsL at6
    rw [List.getElem?_map, List.getElem?_eq_getElem h]; rfl
  rw [this]; rfl
theorem kn_no (l : List P6) (i : Nat) : (encMap ekT evB (knL l i)).all (lowV 0 4) = true :=
  encMap_no (fun k => by simp [ekT, lowV]) (fun v => by simp [evB, lowV]) _
theorem c19 {d lim : Nat} {h : Heap} {v : Value} {l : List P6} (s : Sl6 h v l) : E.call (d + 5) lim 19 [v] h = some (i64 (chkN l), h) := by
  have r := s.rules2
  refine call1 fn19 rfl (by simp [ef19]) ?_
  unfold chkN
  by_cases hl : 60 < l.length
  · have hli : (60 : Int) < l.length := by omega
    have hlk : ¬ (l.length : Int) ≤ 60 := by omega
    simp [ef19, r, hl, hli, hlk]
  have hli : ¬ (60 : Int) < l.length := by omega
  have hlj : (l.length : Int) ≤ 60 := by omega
  rw [if_neg hl]
  generalize hR : fstE (ctErr l) l.length 0 = R
  simp [-collect_own1, ef19, r, hl, hli, hlj, Nat.not_lt.1 hl]
  refine wpC_loop (fun z st => ∃ i : Nat, z = l.length - i ∧ i ≤ l.length ∧ fstE (ctErr l) l.length i = R ∧ st = ⟨[(3, .map (some h.length)), (11, v), (12, i64 (l.length : Int)), (13, i64 (i : Int))], h.freeze ++ [some ⟨encMap ekT evB (knL l i), true⟩]⟩) l.length (by show l.length < 2 ^ 64; omega) ?_ ?_
  · simp [-collect_own1, St.tidy, collect_box, s.own, r]
    exact ⟨0, by omega, by omega, hR, by simp [knL, encMap]⟩
  · rintro z hz _ ⟨i, rfl, hi, hc, rfl⟩
    by_cases hlt : i < l.length
    · have hlti : (i : Int) < l.length := by omega
      have w1' := w1 (i := i) (by omega)
      have p := c6_part hlt
      have k6 : i * 6 + 6 ≤ l.length * 6 := by omega
      have mget := fun k => mapVal_enc (ek := ekT) (ev := evB) same_ekT (knL l i) k
      have mno := kn_no l i
      have mno1 := kn_no l (i + 1)
      have mput : has4 ((tsL l).take i) (at6 l i).1 = false → ∀ x, E.mapPut (ekT (at6 l i).1) x (encMap ekT evB (knL l i)) = some (encMap ekT evB (knL l i) ++ [.tuple #[ekT (at6 l i).1, x]]) := fun y x => mapPut_new (ek := ekT) same_ekT (by rw [kn_look, y]; rfl) x
      have msn : encMap ekT evB (knL l i) ++ [.tuple #[ekT (at6 l i).1, evB true]] = encMap ekT evB (knL l (i + 1)) := by rw [← kn_succ hlt, ← encMap_snoc]
      have pp : ∀ L, i = 0 → Heap.part (h.freeze ++ L) (slB v) (slO v) 6 = some (.agg (enc6 (at6 l i)).toArray) := fun L hi0 => by
        subst hi0
        have := ((Sl_freeze.2 s).app L).part (k := 0) (m := 6) (by omega) (by decide)
        rw [Nat.add_zero] at this
        rw [this, show (0 : Nat) = 0 * 6 from rfl, c6_part (by omega)]
      have s0 : slAt 6 v (i64 0) = some (.pointer (some ⟨slB v, slO v, none⟩)) := by have := s.at (k := .i64) (i := 0) (by omega) (by omega); simpa using this
      rw [fstE_lt hlt] at hc
      have ce : ctErr l i = if chkX (at6 l i).1.1 (at6 l i).1.2.1 (at6 l i).1.2.2.1 (at6 l i).1.2.2.2 = 0 then (if has4 ((tsL l).take i) (at6 l i).1 = true then 5 else rErr (at6 l i).2) else chkX (at6 l i).1.1 (at6 l i).1.2.1 (at6 l i).1.2.2.1 (at6 l i).1.2.2.2 := rfl
      have mg := mget (at6 l i).1
      rw [kn_look] at mg
      generalize hM1 : encMap ekT evB (knL l (i + 1)) = M1 at *
      generalize encMap ekT evB (knL l i) = M at *
      generalize has4 ((tsL l).take i) (at6 l i).1 = H at *
      generalize at6 l i = X at *
      obtain ⟨⟨x1, x2, x3, x4⟩, y1, y2⟩ := X
      simp only [enc6, enc4, enc2, List.cons_append, List.nil_append] at p pp
      simp only [ekT] at mg mput msn
      simp only at ce
      have k47 := fun lim hh => U.c47 (d := d + 1) (lim := lim) (h := hh) (n := x1) (m := x2) (p := x3) (q := x4)
      have k54 := fun a lim hh => U.c54 (d := d + 3) (lim := lim) (h := hh) (a := a) (b := -1000000000) (c := 1000000000)
      by_cases q0 : chkX x1 x2 x3 x4 = 0
      case neg =>
        rw [if_neg q0] at ce
        rw [ce, if_neg q0] at hc
        subst hc
        rcases Nat.eq_zero_or_pos i with z0 | z0
        · subst z0
          have pp0 := fun L => pp L rfl
          simp [hlt, s0, pp0, r, k47, q0]
        · simp [hlti, hlt, Nat.not_le.2 hlt, r, p, k6, k47, q0]
      rw [if_pos q0] at ce
      by_cases q1 : H = true
      · rw [if_pos q1] at ce mg
        rw [ce, if_neg (by decide)] at hc
        subst hc
        rcases Nat.eq_zero_or_pos i with z0 | z0
        · subst z0
          have pp0 := fun L => pp L rfl
          simp [hlt, s0, pp0, r, k47, q0, mg, evB, E.isKey, E.eqCells]
        · simp [hlti, hlt, Nat.not_le.2 hlt, r, p, k6, k47, q0, mg, evB, E.isKey, E.eqCells]
      have q1' : H = false := by simpa using q1
      rw [if_neg q1] at ce mg
      have mput := mput q1'
      unfold rErr at ce
      simp only at ce
      have nb : noAddr (Value.bool true) = true := rfl
      by_cases q2 : within y1 (-1000000000) 1000000000 = true
      case neg =>
        rw [if_neg (fun z => q2 z.1)] at ce
        rw [ce, if_neg (by decide)] at hc
        subst hc
        rcases Nat.eq_zero_or_pos i with z0 | z0
        · subst z0
          have pp0 := fun L => pp L rfl
          simp [hlt, s0, pp0, r, k47, q0, mg, evB, E.isKey, E.eqCells, k54, q2]
        · simp [hlti, hlt, Nat.not_le.2 hlt, r, p, k6, k47, q0, mg, evB, E.isKey, E.eqCells, k54, q2]
      by_cases q3 : within y2 (-1000000000) 1000000000 = true
      case neg =>
        rw [if_neg (fun z => q3 z.2)] at ce
        rw [ce, if_neg (by decide)] at hc
        subst hc
        rcases Nat.eq_zero_or_pos i with z0 | z0
        · subst z0
          have pp0 := fun L => pp L rfl
          simp [hlt, s0, pp0, r, k47, q0, mg, evB, E.isKey, E.eqCells, k54, q2, q3]
        · simp [hlti, hlt, Nat.not_le.2 hlt, r, p, k6, k47, q0, mg, evB, E.isKey, E.eqCells, k54, q2, q3]
      rw [if_pos ⟨q2, q3⟩] at ce
      by_cases q4 : y2 < y1
      · rw [if_pos q4] at ce
        rw [ce, if_neg (by decide)] at hc
        subst hc
        rcases Nat.eq_zero_or_pos i with z0 | z0
        · subst z0
          have pp0 := fun L => pp L rfl
          simp [hlt, s0, pp0, r, k47, q0, mg, evB, E.isKey, E.eqCells, k54, q2, q3, q4]
        · simp [hlti, hlt, Nat.not_le.2 hlt, r, p, k6, k47, q0, mg, evB, E.isKey, E.eqCells, k54, q2, q3, q4]
      · rw [if_neg q4] at ce
        rw [ce, if_pos rfl] at hc
        simp only [evB] at msn
        rcases Nat.eq_zero_or_pos i with z0 | z0
        · subst z0
          have pp0 := fun L => pp L rfl
          simp [-collect_own1, hlt, s0, pp0, r, k47, q0, mg, evB, E.isKey, E.eqCells, k54, q2, q3, q4, Int.not_lt.1 q4, mput, msn, w1', mno, mno1, St.tidy, collect_box, s.own]
          exact ⟨l.length - 1, by omega, 1, rfl, by omega, hc, rfl, hM1.symm⟩
        · simp [-collect_own1, hlti, hlt, Nat.not_le.2 hlt, r, p, k6, k47, q0, mg, evB, E.isKey, E.eqCells, k54, q2, q3, q4, Int.not_lt.1 q4, mput, msn, w1', mno, mno1, St.tidy, collect_box, s.own]
          exact ⟨l.length - (i + 1), by omega, i + 1, rfl, by omega, hc, by omega, hM1.symm⟩
    · obtain rfl : i = l.length := by omega
      rw [fstE_ge (by omega)] at hc
      subst hc
      simp [r]
end Z.U
end Go.Abs
/- Chapter 7: counts: the reference's check. -/
namespace Go.Abs
namespace Z.U
set_option maxRecDepth 100000
set_option maxHeartbeats 0
set_option linter.unusedSimpArgs false
end Z.U
end Go.Abs
/- Chapter 7: counts that fail. -/
namespace Go.Abs
namespace Z.U
set_option maxRecDepth 100000
set_option maxHeartbeats 0
set_option linter.unusedSimpArgs false
def iV (b : Nat) (L : List Int) : Value := if L = [] then .slice none 0 0 else .slice (some ⟨b, 0, none⟩) L.length 1
def iB (L : List Int) : List (Option Blk) := if L = [] then [] else [some ⟨cI L, true⟩]
/-- Whether a count fails. -/
def failB (bt : Nat → Int × Int) (l : List P6) (i : Nat) : Bool := decide ((bt i).2 < (at6 l i).2.1) || decide ((at6 l i).2.2 < (bt i).1)
def fdL (bt : Nat → Int × Int) (l : List P6) : Nat → List Int
  | 0 => []
  | k + 1 => if failB bt l k = true then fdL bt l k ++ [(k : Int)] else fdL bt l k
theorem fdL_len (bt : Nat → Int × Int) (l : List P6) : ∀ k, (fdL bt l k).length ≤ k
  | 0 => Nat.le_refl _
  | k + 1 => by
    have := fdL_len bt l k
    unfold fdL
    split
    · rw [List.length_append]; simp; omega
    · omega
theorem cI_pl (l : List Int) : (cI l).all plainV = true := by simp [cI, plainV]
theorem chkN_len {l : List P6} (h : chkN l = 0) : l.length ≤ 60 := by
  unfold chkN at h
  by_cases z : 60 < l.length
  · rw [if_pos z] at h; cases h
  · omega
theorem chkN_at {l : List P6} (h : chkN l = 0) {i : Nat} (hi : i < l.length) : chkX (at6 l i).1.1 (at6 l i).1.2.1 (at6 l i).1.2.2.1 (at6 l i).1.2.2.2 = 0 ∧ (at6 l i).2.1 ≤ (at6 l i).2.2 := by
  have hl := chkN_len h
  unfold chkN at h
  rw [if_neg (by omega), fstE_all _ 0 rfl] at h
  have := h i (by omega) hi
  unfold ctErr at this
  by_cases z : chkX (at6 l i).1.1 (at6 l i).1.2.1 (at6 l i).1.2.2.1 (at6 l i).1.2.2.2 = 0
  · refine ⟨z, ?_⟩
    rw [if_pos z] at this
    by_cases y : has4 ((tsL l).take i) (at6 l i).1 = true
    · rw [if_pos y] at this; cases this
    · rw [if_neg y] at this
      unfold rErr at this
      split at this
      · by_cases w : (at6 l i).2.2 < (at6 l i).2.1
        · rw [if_pos w] at this; cases this
        · omega
      · cases this
  · rw [if_neg z] at this; exact absurd this z
theorem c22 {d lim : Nat} {h : Heap} {v : Value} {l : List P6} {C : List Value} {nm : ByteArray} {P S : Nat → Int} {F : Int} {bt : Nat → Int × Int} (s : Sl6 h v l) (t : Tm C nm P S) (hs : nm.size ≤ 1000)
    (hb : tuE nm P S F = 0 → chkN l = 0 → ∀ i, i < l.length → (bt i).1 ≤ (bt i).2 ∧ ∀ lim L, E.call (d + 8) lim 51 [.agg C.toArray, i64 F, vT (at6 l i).1] (h.freeze ++ L) = some (r3 ((bt i).1, (bt i).2, 0), h.freeze ++ L)) :
    E.call (d + 9) lim 22 [.agg C.toArray, i64 F, v] h = some (.tuple #[if tuE nm P S F = 0 ∧ chkN l = 0 then iV h.length (fdL bt l l.length) else .slice none 0 0, i64 (if tuE nm P S F = 0 then chkN l else tuE nm P S F)], h ++ if tuE nm P S F = 0 ∧ chkN l = 0 then iB (fdL bt l l.length) else []) := by
  have r := s.rules2
  have k50 := fun lim hh => c50 (d := d + 3) (lim := lim) (h := hh) (F := F) t hs
  have k19 := fun (L : Heap) lim => c19 (d := d + 3) (lim := lim) ((Sl_freeze.2 s).app L)
  refine call_pure fn22 rfl (by simp [ef22]) ?_
  by_cases q0 : tuE nm P S F = 0
  case neg => simp [ef22, t.len, t.take, k50, q0]
  by_cases q1 : chkN l = 0
  case neg => simp [ef22, t.len, t.take, k50, q0, k19, q1]
  have hl := chkN_len q1
  have k51 := hb q0 q1
  have tp := t.plain
  simp [-collect_own1, ef22, t.len, t.take, k50, q0, k19, q1, r]
  refine wpC_loop (fun q st => ∃ i : Nat, q = l.length - i ∧ i ≤ l.length ∧ st = if fdL bt l i = [] then ⟨[(1, i64 F), (3, .pointer (some ⟨h.length, 0, none⟩)), (10, .slice none 0 0), (26, v), (27, i64 (l.length : Int)), (28, i64 (i : Int))], h.freeze ++ [some ⟨C, true⟩]⟩ else ⟨[(1, i64 F), (3, .pointer (some ⟨h.length, 0, none⟩)), (10, .slice (some ⟨h.length + 1, 0, none⟩) (fdL bt l i).length 1), (26, v), (27, i64 (l.length : Int)), (28, i64 (i : Int))], h.freeze ++ [some ⟨C, true⟩, some ⟨cI (fdL bt l i), true⟩]⟩) l.length (by show l.length < 2 ^ 64; omega) ?_ ?_
  · simp [-collect_own1, tp, St.tidy, collect_box, s.own, r]
    exact ⟨0, by omega, by omega, by simp [fdL]⟩
  · rintro q hq _ ⟨i, rfl, hi, rfl⟩
    have fl := fdL_len bt l i
    have hn : fdL bt l (i + 1) = if failB bt l i = true then fdL bt l i ++ [(i : Int)] else fdL bt l i := rfl
    generalize hD1 : fdL bt l (i + 1) = D1 at *
    by_cases hlt : i < l.length
    · obtain ⟨D, hD⟩ : ∃ D, D = fdL bt l i := ⟨_, rfl⟩
      rw [← hD] at fl hn ⊢
      have hlti : (i : Int) < l.length := by omega
      have w1' := w1 (i := i) (by omega)
      have pt := c6_part hlt
      have k6 : i * 6 + 6 ≤ l.length * 6 := by omega
      obtain ⟨bo, k51i⟩ := k51 i hlt
      obtain ⟨_, co⟩ := chkN_at q1 hlt
      have pp : ∀ L, i = 0 → Heap.part (h.freeze ++ L) (slB v) (slO v) 6 = some (.agg (enc6 (at6 l i)).toArray) := fun L hi0 => by
        subst hi0
        have := ((Sl_freeze.2 s).app L).part (k := 0) (m := 6) (by omega) (by decide)
        rw [Nat.add_zero] at this
        rw [this, show (0 : Nat) = 0 * 6 from rfl, c6_part (by omega)]
      have s0 : slAt 6 v (i64 0) = some (.pointer (some ⟨slB v, slO v, none⟩)) := by have := s.at (k := .i64) (i := 0) (by omega) (by omega); simpa using this
      have cn : cI D ++ [i64 (i : Int)] = cI (D ++ [(i : Int)]) := by simp [cI]
      have one := one_cI D
      have cp := cI_pl D
      have cp1 := cI_pl (D ++ [(i : Int)])
      have cl := cI_len D
      unfold failB at hn
      generalize bt i = B at *
      obtain ⟨B1, B2⟩ := B
      generalize at6 l i = X at *
      obtain ⟨⟨x1, x2, x3, x4⟩, y1, y2⟩ := X
      simp only [enc6, enc4, enc2, List.cons_append, List.nil_append] at pt pp
      simp only [vT] at k51i
      simp only at hn bo co
      have mxe : ∀ a b : Int, (max a b) = if a ≤ b then b else a := fun a b => Int.max_def a b
      have ife : (min B2 y2 < max B1 y1) ↔ (decide (B2 < y1) || decide (y2 < B1)) = true := by
        rw [Bool.or_eq_true, decide_eq_true_eq, decide_eq_true_eq]; omega
      by_cases q : (decide (B2 < y1) || decide (y2 < B1)) = true
      · have q2 := ife.2 q
        have q2b := Int.not_le.2 q2
        rw [if_pos q] at hn
        rcases Nat.eq_zero_or_pos i with z0 | z0
        · have e : D = [] := List.eq_nil_of_length_eq_zero (by omega)
          subst z0 e
          rw [if_pos rfl]
          have pp0 := fun L => pp L rfl
          simp [-collect_own1, Nat.add_assoc, hlt, s0, pp0, k51i, t.len, t.take, r, w1', q2, q2b, fillL, zeros, E.append, E.added, tp, St.tidy, collect_box, s.own]
          exact ⟨by decide, l.length - 1, by omega, 1, by omega, by omega, by rw [show fdL bt l 1 = D1 from hD1, hn, if_neg (by simp)]; simp [cI]⟩
        · by_cases z : D = []
          · rw [if_pos z]
            simp [-collect_own1, Nat.add_assoc, hlti, hlt, Nat.not_le.2 hlt, pt, k6, k51i, t.len, t.take, r, w1', q2, q2b, fillL, zeros, E.append, E.added, tp, St.tidy, collect_box, s.own]
            exact ⟨by decide, l.length - (i + 1), by omega, i + 1, rfl, by omega, by rw [hD1, hn, z, if_neg (by simp)]; simp [cI]⟩
          · rw [if_neg z]
            simp [-collect_own1, Nat.add_assoc, hlti, hlt, Nat.not_le.2 hlt, pt, k6, k51i, t.len, t.take, r, w1', q2, q2b, fillL, zeros, E.append, E.added, tp, St.tidy, collect_box, s.own, cl, cn, cp1]
            exact ⟨⟨by omega, by unfold maxLen; omega⟩, l.length - (i + 1), by omega, i + 1, rfl, by omega, by rw [hD1, hn, if_neg (by simp)]; simp⟩
      · have q2 : ¬ min B2 y2 < max B1 y1 := fun y => q (ife.1 y)
        have q2b := Int.not_lt.1 q2
        rw [if_neg q] at hn
        rcases Nat.eq_zero_or_pos i with z0 | z0
        · have e : D = [] := List.eq_nil_of_length_eq_zero (by omega)
          subst z0 e
          rw [if_pos rfl]
          have pp0 := fun L => pp L rfl
          simp [-collect_own1, Nat.add_assoc, hlt, s0, pp0, k51i, t.len, t.take, r, w1', q2, q2b, fillL, zeros, E.append, E.added, tp, St.tidy, collect_box, s.own]
          exact ⟨l.length - 1, by omega, 1, by omega, by omega, by rw [show fdL bt l 1 = D1 from hD1, hn, if_pos rfl]; simp⟩
        · by_cases z : D = []
          · rw [if_pos z]
            simp [-collect_own1, Nat.add_assoc, hlti, hlt, Nat.not_le.2 hlt, pt, k6, k51i, t.len, t.take, r, w1', q2, q2b, fillL, zeros, E.append, E.added, tp, St.tidy, collect_box, s.own]
            exact ⟨l.length - (i + 1), by omega, i + 1, rfl, by omega, by rw [hD1, hn, if_pos z]; simp⟩
          · rw [if_neg z]
            simp [-collect_own1, Nat.add_assoc, hlti, hlt, Nat.not_le.2 hlt, pt, k6, k51i, t.len, t.take, r, w1', q2, q2b, fillL, zeros, E.append, E.added, tp, St.tidy, collect_box, s.own, cp]
            exact ⟨l.length - (i + 1), by omega, i + 1, rfl, by omega, by rw [hD1, hn, if_neg z]; simp⟩
    · obtain rfl : i = l.length := by omega
      have cp := cI_pl (fdL bt l l.length)
      by_cases z : fdL bt l l.length = []
      · rw [if_pos z]
        simp [iV, iB, z, r]
      · rw [if_neg z]
        simp [iV, iB, z, r, cp]
end Z.U
end Go.Abs
