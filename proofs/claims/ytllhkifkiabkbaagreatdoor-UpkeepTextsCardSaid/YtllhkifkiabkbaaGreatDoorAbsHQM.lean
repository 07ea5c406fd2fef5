/- Chapter 7: counts: their check. -/
import Derived.Test.YtllhkifkiabkbaaGreatDoorAbsHUJM
import Derived.Test.YtllhkifkiabkbaaGreatDoorAbsWpN
set_option linter.unusedSimpArgs false
set_option linter.unusedVariables false
/- Chapter 7: counts: their check. -/

namespace Go.Abs
namespace H.U
set_option maxRecDepth 100000
set_option maxHeartbeats 0
set_option linter.unusedSimpArgs false
abbrev Sl6 (h : Heap) (v : Value) (l : List P6) : Prop := Sl 6 h v l.length (cS enc6 l)
def at6 (l : List P6) (i : Nat) : P6 := (l[i]?).getD ((0, 0, 0, 0), (0, 0))
def tsL (l : List P6) : List P4 := l.map (·.1)
theorem tsL_len (l : List P6) : (tsL l).length = l.length := by simp [tsL]
theorem at4_ts {l : List P6} {i : Nat} (h : i < l.length) : at4 (tsL l) i = (at6 l i).1 := by
  unfold at4 at6 tsL
  rw [List.getElem?_map, List.getElem?_eq_getElem h]; rfl
theorem c6_part {l : List P6} {i : Nat} (h : i < l.length) : ((cS enc6 l).drop (i * 6)).take 6 = enc6 (at6 l i) := by
  rw [cS_part (f := enc6) (es := 6) (fun _ => rfl) l i h]
  unfold at6; rw [List.getElem?_eq_getElem h]; rfl
/-- The error of a range of beats. -/
def rErr (r : P2) : Int := if within r.1 (-1000000000) 1000000000 = true ∧ within r.2 (-1000000000) 1000000000 = true then (if r.2 < r.1 then 9 else 0) else 2
def ctErr (l : List P6) (i : Nat) : Int := if chkX (at6 l i).1.1 (at6 l i).1.2.1 (at6 l i).1.2.2.1 (at6 l i).1.2.2.2 = 0 then (if has4 ((tsL l).take i) (at6 l i).1 = true then 5 else rErr (at6 l i).2) else chkX (at6 l i).1.1 (at6 l i).1.2.1 (at6 l i).1.2.2.1 (at6 l i).1.2.2.2
def chkN (l : List P6) : Int := if 60 < l.length then 8 else fstE (ctErr l) l.length 0
def ekT (x : P4) : Value := .agg #[i64 x.1, i64 x.2.1, i64 x.2.2.1, i64 x.2.2.2]
def evB (b : Bool) : Value := .bool b
theorem same_ekT (a b : P4) : E.sameKey (ekT a) (ekT b) = some (decide (a = b)) := by
  obtain ⟨a1, a2, a3, a4⟩ := a
  obtain ⟨b1, b2, b3, b4⟩ := b
  simp only [E.sameKey, ekT, E.cellsSame, if_true, Option.map_some]
  congr 1
  rw [Bool.eq_iff_iff]
  simp [Prod.ext_iff]
def knL (l : List P6) (i : Nat) : List (P4 × Bool) := ((tsL l).take i).map fun x => (x, true)
theorem look_map (k : P4) : ∀ L : List P4, mLook (L.map fun x => (x, true)) k = if k ∈ L then some true else none
  | [] => rfl
  | x :: L => by
    rw [List.map_cons]
    unfold mLook
    by_cases q : k = x
    · rw [if_pos q, if_pos (by simp [q])]
    · rw [if_neg q, look_map k L]
      by_cases z : k ∈ L
      · rw [if_pos z, if_pos (by simp [z])]
      · rw [if_neg z, if_neg (by simp [z, q])]
theorem mem_at4 {L : List P4} {x : P4} : x ∈ L ↔ ∃ k, k < L.length ∧ at4 L k = x := by
  constructor
  · intro h
    obtain ⟨k, hk, e⟩ := List.getElem_of_mem h
    exact ⟨k, hk, by rw [← at4_get hk, e]⟩
  · rintro ⟨k, hk, rfl⟩
    rw [← at4_get hk]; exact List.getElem_mem hk
theorem kn_look (l : List P6) (i : Nat) (k : P4) : mLook (knL l i) k = if has4 ((tsL l).take i) k = true then some true else none := by
  unfold knL
  rw [look_map]
  by_cases z : k ∈ (tsL l).take i
  · rw [if_pos z, if_pos (has4_iff.2 (mem_at4.1 z))]
  · rw [if_neg z, if_neg fun y => z (mem_at4.2 (has4_iff.1 y))]
theorem kn_succ {l : List P6} {i : Nat} (h : i < l.length) : knL l i ++ [((at6 l i).1, true)] = knL l (i + 1) := by
  unfold knL
  rw [List.take_add_one, List.map_append]
  congr 1
  have : (tsL l)[i]? = some (at6 l i).1 := by
    unfold tsL at6
    rw [List.getElem?_map, List.getElem?_eq_getElem h]; rfl
  rw [this]; rfl
theorem kn_no (l : List P6) (i : Nat) : (encMap ekT evB (knL l i)).all (lowV 0 4) = true :=
  encMap_no (fun k => by simp [ekT, lowV]) (fun v => by simp [evB, lowV]) _
theorem c61 {d lim : Nat} {h : Heap} {v : Value} {l : List P6} (s : Sl6 h v l) : E.call (d + 5) lim 61 [v] h = some (i64 (chkN l), h) := by
  have r := s.rules2
  refine call1 fn61 rfl (by simp [ef61]) ?_
  unfold chkN
  by_cases hl : 60 < l.length
  · have hli : (60 : Int) < l.length := by omega
    have hlk : ¬ (l.length : Int) ≤ 60 := by omega
    simp [ef61, r, hl, hli, hlk]
  have hli : ¬ (60 : Int) < l.length := by omega
  have hlj : (l.length : Int) ≤ 60 := by omega
  rw [if_neg hl]
  generalize hR : fstE (ctErr l) l.length 0 = R
  simp [-collect_own1, ef61, r, hl, hli, hlj, Nat.not_lt.1 hl]
  refine wpC_loop (fun z st => ∃ i : Nat, z = l.length - i ∧ i ≤ l.length ∧ fstE (ctErr l) l.length i = R ∧ st = ⟨[(3, .map (some h.length)), (11, v), (12, i64 (l.length : Int)), (13, i64 (i : Int))], h.freeze ++ [some ⟨encMap ekT evB (knL l i), true⟩]⟩) l.length (by show l.length < 2 ^ 64; omega) ?_ ?_
  · simp [-collect_own1, St.tidy, collect_box, s.own, r]
    exact ⟨0, by omega, by omega, hR, by simp [knL, encMap]⟩
  · rintro z hz _ ⟨i, rfl, hi, hc, rfl⟩
    by_cases hlt : i < l.length
    · have hlti : (i : Int) < l.length := by omega
      have w1' := w1 (i := i) (by omega)
      have p := c6_part hlt
      have k6 : i * 6 + 6 ≤ l.length * 6 := by omega
      have mget := fun k => mapVal_enc (ek := ekT) (ev := evB) same_ekT (knL l i) k
      have mno := kn_no l i
      have mno1 := kn_no l (i + 1)
      have mput : has4 ((tsL l).take i) (at6 l i).1 = false → ∀ x, E.mapPut (ekT (at6 l i).1) x (encMap ekT evB (knL l i)) = some (encMap ekT evB (knL l i) ++ [.tuple #[ekT (at6 l i).1, x]]) := fun y x => mapPut_new (ek := ekT) same_ekT (by rw [kn_look, y]; rfl) x
      have msn : encMap ekT evB (knL l i) ++ [.tuple #[ekT (at6 l i).1, evB true]] = encMap ekT evB (knL l (i + 1)) := by rw [← kn_succ hlt, ← encMap_snoc]
      have pp : ∀ L, i = 0 → Heap.part (h.freeze ++ L) (slB v) (slO v) 6 = some (.agg (enc6 (at6 l i)).toArray) := fun L hi0 => by
        subst hi0
        have := ((Sl_freeze.2 s).app L).part (k := 0) (m := 6) (by omega) (by decide)
        rw [Nat.add_zero] at this
        rw [this, show (0 : Nat) = 0 * 6 from rfl, c6_part (by omega)]
      have s0 : slAt 6 v (i64 0) = some (.pointer (some ⟨slB v, slO v, none⟩)) := by have := s.at (k := .i64) (i := 0) (by omega) (by omega); simpa using this
      rw [fstE_lt hlt] at hc
      have ce : ctErr l i = if chkX (at6 l i).1.1 (at6 l i).1.2.1 (at6 l i).1.2.2.1 (at6 l i).1.2.2.2 = 0 then (if has4 ((tsL l).take i) (at6 l i).1 = true then 5 else rErr (at6 l i).2) else chkX (at6 l i).1.1 (at6 l i).1.2.1 (at6 l i).1.2.2.1 (at6 l i).1.2.2.2 := rfl
      have mg := mget (at6 l i).1
      rw [kn_look] at mg
      generalize hM1 : encMap ekT evB (knL l (i + 1)) = M1 at *
      generalize encMap ekT evB (knL l i) = M at *
      generalize has4 ((tsL l).take i) (at6 l i).1 = H at *
      generalize at6 l i = X at *
      obtain ⟨⟨x1, x2, x3, x4⟩, y1, y2⟩ := X
      simp only [enc6, enc4, enc2, List.cons_append, List.nil_append] at p pp
      simp only [ekT] at mg mput msn
      simp only at ce
      have k47 := fun lim hh => U.c97 (d := d + 1) (lim := lim) (h := hh) (n := x1) (m := x2) (p := x3) (q := x4)
      have k54 := fun a lim hh => U.c90 (d := d + 3) (lim := lim) (h := hh) (a := a) (b := -1000000000) (c := 1000000000)
      by_cases q0 : chkX x1 x2 x3 x4 = 0
      case neg =>
        rw [if_neg q0] at ce
        rw [ce, if_neg q0] at hc
        subst hc
        rcases Nat.eq_zero_or_pos i with z0 | z0
        · subst z0
          have pp0 := fun L => pp L rfl
          simp [hlt, s0, pp0, r, k47, q0]
        · simp [hlti, hlt, Nat.not_le.2 hlt, r, p, k6, k47, q0]
      rw [if_pos q0] at ce
      by_cases q1 : H = true
      · rw [if_pos q1] at ce mg
        rw [ce, if_neg (by decide)] at hc
        subst hc
        rcases Nat.eq_zero_or_pos i with z0 | z0
        · subst z0
          have pp0 := fun L => pp L rfl
          simp [hlt, s0, pp0, r, k47, q0, mg, evB, E.isKey, E.eqCells]
        · simp [hlti, hlt, Nat.not_le.2 hlt, r, p, k6, k47, q0, mg, evB, E.isKey, E.eqCells]
      have q1' : H = false := by simpa using q1
      rw [if_neg q1] at ce mg
      have mput := mput q1'
      unfold rErr at ce
      simp only at ce
      have nb : noAddr (Value.bool true) = true := rfl
      by_cases q2 : within y1 (-1000000000) 1000000000 = true
      case neg =>
        rw [if_neg (fun z => q2 z.1)] at ce
        rw [ce, if_neg (by decide)] at hc
        subst hc
        rcases Nat.eq_zero_or_pos i with z0 | z0
        · subst z0
          have pp0 := fun L => pp L rfl
          simp [hlt, s0, pp0, r, k47, q0, mg, evB, E.isKey, E.eqCells, k54, q2]
        · simp [hlti, hlt, Nat.not_le.2 hlt, r, p, k6, k47, q0, mg, evB, E.isKey, E.eqCells, k54, q2]
      by_cases q3 : within y2 (-1000000000) 1000000000 = true
      case neg =>
        rw [if_neg (fun z => q3 z.2)] at ce
        rw [ce, if_neg (by decide)] at hc
        subst hc
        rcases Nat.eq_zero_or_pos i with z0 | z0
        · subst z0
          have pp0 := fun L => pp L rfl
          simp [hlt, s0, pp0, r, k47, q0, mg, evB, E.isKey, E.eqCells, k54, q2, q3]
        · simp [hlti, hlt, Nat.not_le.2 hlt, r, p, k6, k47, q0, mg, evB, E.isKey, E.eqCells, k54, q2, q3]
      rw [if_pos ⟨q2, q3⟩] at ce
      by_cases q4 : y2 < y1
      · rw [if_pos q4] at ce
        rw [ce, if_neg (by decide)] at hc
        subst hc
        rcases Nat.eq_zero_or_pos i with z0 | z0
        · subst z0
          have pp0 := fun L => pp L rfl
          simp [hlt, s0, pp0, r, k47, q0, mg, evB, E.isKey, E.eqCells, k54, q2, q3, q4]
        · simp [hlti, hlt, Nat.not_le.2 hlt, r, p, k6, k47, q0, mg, evB, E.isKey, E.eqCells, k54, q2, q3, q4]
      · rw [if_neg q4] at ce
        rw [ce, if_pos rfl] at hc
        simp only [evB] at msn
        rcases Nat.eq_zero_or_pos i with z0 | z0
        · subst z0
          have pp0 := fun L => pp L rfl
          simp [-collect_own1, hlt, s0, pp0, r, k47, q0, mg, evB, E.isKey, E.eqCells, k54, q2, q3, q4, Int.not_lt.1 q4, mput, msn, w1', mno, mno1, St.tidy, collect_box, s.own]
          exact ⟨l.length - 1, by omega, 1, rfl, by omega, hc, rfl, hM1.symm⟩
        · simp [-collect_own1, hlti, hlt, Nat.not_le.2 hlt, r, p, k6, k47, q0, mg, evB, E.isKey, E.eqCells, k54, q2, q3, q4, Int.not_lt.1 q4, mput, msn, w1', mno, mno1, St.tidy, collect_box, s.own]
          exact ⟨l.length - (i + 1), by omega, i + 1, rfl, by omega, hc, by omega, hM1.symm⟩
    · obtain rfl : i = l.length := by omega
      rw [fstE_ge (by omega)] at hc
      subst hc
      simp [r]
end H.U
end Go.Abs
/- Chapter 7: counts: the reference's check. -/
namespace Go.Abs
namespace H.U
set_option maxRecDepth 100000
set_option maxHeartbeats 0
set_option linter.unusedSimpArgs false
def tV (b : Nat) (L : List P4) : Value := if L = [] then .slice none 0 0 else .slice (some ⟨b, 0, none⟩) L.length 4
def tB (L : List P4) : List (Option Blk) := if L = [] then [] else [some ⟨cS enc4 L, true⟩]
theorem take_ts {l : List P6} {i : Nat} (h : i < l.length) : (tsL l).take i ++ [(at6 l i).1] = (tsL l).take (i + 1) := by
  rw [List.take_add_one]
  congr 1
  have : (tsL l)[i]? = some (at6 l i).1 := by
    unfold tsL at6
    rw [List.getElem?_map, List.getElem?_eq_getElem h]; rfl
  rw [this]; rfl
theorem c4_snoc (L : List P4) (x : P4) : cS enc4 L ++ [i64 x.1, i64 x.2.1, i64 x.2.2.1, i64 x.2.2.2] = cS enc4 (L ++ [x]) := by simp [cS, enc4]
theorem c16 {d lim : Nat} {h : Heap} {v : Value} {l : List P6} (s : Sl6 h v l) (hl : l.length * 32 ≤ 140737488355328) : E.call (d + 1) lim 16 [v] h = some (tV h.length (tsL l), h ++ tB (tsL l)) := by
  have r := s.rules2
  refine call_pure fn16 rfl (by simp [ef16]) ?_
  simp [ef16]
  refine wpC_loop (fun q st => ∃ i : Nat, q = l.length - i ∧ i ≤ l.length ∧ st = ⟨[(0, v), (3, tV h.length ((tsL l).take i)), (4, i64 (i : Int))], h.freeze ++ tB ((tsL l).take i)⟩) l.length (by show l.length < 2 ^ 64; omega) ?_ ?_
  · simp [St.tidy, r]
    exact ⟨0, by omega, by omega, ⟨by simp [tV], rfl⟩, by simp [tB]⟩
  · rintro q hq _ ⟨i, rfl, hi, rfl⟩
    have lt := tsL_len l
    obtain ⟨L, hL⟩ : ∃ L, L = (tsL l).take i := ⟨_, rfl⟩
    have lk : L.length = i := by rw [hL, List.length_take]; omega
    rw [← hL]
    by_cases hlt : i < l.length
    · have hlti : (i : Int) < l.length := by omega
      have w1' : IntKind.wrap .i64 ((i : Int) + 1) = ((i + 1 : Nat) : Int) := by rw [wrap_eq (by omega) (by omega)]; rfl
      have hsn := c4_snoc L (at6 l i).1
      have hnx := take_ts hlt
      rw [← hL] at hnx
      rw [hnx] at hsn
      obtain ⟨L1, hL1⟩ : ∃ L1, L1 = (tsL l).take (i + 1) := ⟨_, rfl⟩
      have lk1 : L1.length = i + 1 := by rw [hL1, List.length_take]; omega
      rw [← hL1] at hsn
      have cp := c4_plain L1
      have cl := c4_len L
      rw [lk] at cl
      have nt : ¬ (i + 1 = 0 ∨ tsL l = []) := by
        rintro (z | z)
        · omega
        · rw [z] at lt; simp at lt; omega
      have mn : min (i + 1) (tsL l).length = i + 1 := by omega
      have ne1 : ¬ L1 = [] := fun z => by rw [z] at lk1; cases lk1
      have p := c6_part hlt
      have p4 : ((cS enc6 l).drop (i * 6)).take 4 = enc4 (at6 l i).1 := by
        have : ((cS enc6 l).drop (i * 6)).take 4 = (((cS enc6 l).drop (i * 6)).take 6).take 4 := by rw [List.take_take]; rfl
        rw [this, p]; rfl
      have k6 : i * 6 + 4 ≤ l.length * 6 := by omega
      have pp : ∀ L, i = 0 → Heap.part (h.freeze ++ L) (slB v) (slO v) 4 = some (.agg (enc4 (at6 l i).1).toArray) := fun L hi0 => by
        have := ((Sl_freeze.2 s).app L).part (k := i * 6) (m := 4) (by omega) (by decide)
        rw [p4] at this
        rw [hi0] at this ⊢
        simpa using this
      have pq : i = 0 → Heap.part h (slB v) (slO v) 4 = some (.agg (enc4 (at6 l i).1).toArray) := fun hi0 => by
        have := s.part (k := i * 6) (m := 4) (by omega) (by decide)
        rw [p4] at this
        rw [hi0] at this ⊢
        simpa using this
      have s0 : slAt 6 v (i64 0) = some (.pointer (some ⟨slB v, slO v, none⟩)) := by have := s.at (k := .i64) (i := 0) (by omega) (by omega); simpa using this
      generalize (at6 l i).1 = X at *
      obtain ⟨x1, x2, x3, x4⟩ := X
      simp only [enc4] at p4 pp pq
      by_cases e : L = []
      · have i0 : i = 0 := by rw [e] at lk; simpa using lk.symm
        subst i0
        rw [e, show cS enc4 [] = [] from rfl, List.nil_append] at hsn
        have pp0 := fun L => pp L rfl
        have pq0 := pq rfl
        simp [-collect_own1, tV, tB, e, hlt, s0, pp0, pq0, fillL, zeros, E.append, E.added, w1', St.tidy, collect_box, s.own, r]
        exact ⟨by decide, l.length - 1, by omega, 1, by omega, by omega, by rw [if_neg nt, mn]; exact ⟨rfl, rfl⟩, by rw [if_neg nt]; exact congrArg (fun c => [some (Blk.mk c true)]) (hsn.trans (by rw [hL1]))⟩
      · have n0 : i ≠ 0 := fun z => e (List.eq_nil_of_length_eq_zero (by omega))
        simp [-collect_own1, tV, tB, e, lk, hlti, hlt, Nat.not_le.2 hlt, p4, k6, fillL, zeros, E.append, E.added, cl, hsn, cp, w1', St.tidy, collect_box, s.own, r]
        exact ⟨⟨by omega, by unfold maxLen; omega⟩, l.length - (i + 1), by omega, i + 1, by omega, by omega, by rw [if_neg nt, mn]; exact ⟨rfl, by omega⟩, by rw [if_neg nt, hL1]⟩
    · obtain rfl : i = l.length := by omega
      have eL : L = tsL l := by rw [hL, List.take_of_length_le (by omega)]
      have cp := c4_plain (tsL l)
      rw [eL]
      by_cases e : tsL l = []
      · simp [tV, tB, e, r]
      · simp [tV, tB, e, cp, r, tsL_len]
theorem fstE_skip {e : Nat → Int} {n : Nat} {i : Nat} : ∀ k a, i - a = k → a ≤ i → i ≤ n → (∀ j, a ≤ j → j < i → e j = 0) → fstE e n a = fstE e n i
  | 0, a, hk, ha, hn, _ => by rw [show a = i by omega]
  | k + 1, a, hk, ha, hn, h => by
    rw [fstE_lt (by omega), if_pos (h a (by omega) (by omega))]
    exact fstE_skip k (a + 1) (by omega) (by omega) hn fun j h1 h2 => h j (by omega) h2
/-- The tests up to a good count. -/
theorem chk_upto {l : List P6} {i : Nat} (hi : i < l.length) (hl : l.length ≤ 60) (h : ∀ j, j < i → ctErr l j = 0) :
    chkTs ((tsL l).take (i + 1)) = if chkX (at6 l i).1.1 (at6 l i).1.2.1 (at6 l i).1.2.2.1 (at6 l i).1.2.2.2 = 0 then (if has4 ((tsL l).take i) (at6 l i).1 = true then 5 else 0) else chkX (at6 l i).1.1 (at6 l i).1.2.1 (at6 l i).1.2.2.1 (at6 l i).1.2.2.2 := by
  have lt := tsL_len l
  have ll : ((tsL l).take (i + 1)).length = i + 1 := by rw [List.length_take]; omega
  have te : ∀ j, j < i + 1 → tErr ((tsL l).take (i + 1)) j = if chkX (at6 l j).1.1 (at6 l j).1.2.1 (at6 l j).1.2.2.1 (at6 l j).1.2.2.2 = 0 then (if has4 ((tsL l).take j) (at6 l j).1 = true then 5 else 0) else chkX (at6 l j).1.1 (at6 l j).1.2.1 (at6 l j).1.2.2.1 (at6 l j).1.2.2.2 := fun j hj => by
    unfold tErr
    rw [at4_take hj, at4_ts (by omega), List.take_take, Nat.min_eq_left (by omega)]
  unfold chkTs
  rw [if_neg (by omega), ll, fstE_skip (i := i) i 0 (by omega) (by omega) (by omega) (fun j _ hj => ?_), fstE_lt (by omega), te i (by omega), fstE_ge (by omega)]
  · have q : ∀ A : Int, (if A = 0 then (0 : Int) else A) = A := fun A => by
      by_cases z : A = 0
      · rw [if_pos z, z]
      · rw [if_neg z]
    exact q _
  · rw [te j (by omega)]
    have := h j hj
    unfold ctErr at this
    by_cases z : chkX (at6 l j).1.1 (at6 l j).1.2.1 (at6 l j).1.2.2.1 (at6 l j).1.2.2.2 = 0
    · rw [if_pos z] at this ⊢
      by_cases y : has4 ((tsL l).take j) (at6 l j).1 = true
      · rw [if_pos y] at this; cases this
      · rw [if_neg y]
    · rw [if_neg z] at this; exact absurd this z
theorem c26 {d lim : Nat} {h : Heap} {v : Value} {l : List P6} (s : Sl6 h v l) (hl : l.length ≤ 100000) :
    E.call (d + 1) lim 26 [v] h = some (.slice (some ⟨h.length, 0, none⟩) l.length 6, h ++ [some ⟨cS enc6 l, true⟩]) := by
  refine call_pure fn26 rfl (by simp [ef26]) ?_
  have A1 := fun (hn : l.length ≠ 0) => app_some (bytes := 48) (b := h.length) (H := h.freeze ++ [some ⟨[], true⟩]) ((Sl_freeze.2 s).app _) hn (by omega) (by rw [hget_base0 (by simp)]; rfl) (c6_one l) (by omega) (by omega)
  have A0 := fun (hn : l.length = 0) => app_none (es := 6) (bytes := 48) (b := h.length) (H := h.freeze ++ [some ⟨[], true⟩]) (cs := cS enc6 l) (by have := (Sl_freeze.2 s).app [some ⟨[], true⟩]; rwa [hn] at this) (by omega)
  have cp := c6_plain l
  rcases Nat.eq_zero_or_pos l.length with hz | hz
  · have e0 : cS enc6 l = [] := by rw [List.eq_nil_of_length_eq_zero hz]; rfl
    simp [ef26, zeros, fillL, A0, hz, e0, Blk_addrs_nil, Blk_ren_nil]
  · have n0 : l.length ≠ 0 := by omega
    simp [ef26, zeros, fillL, A1, n0, cp]
theorem c27 {d lim : Nat} {h : Heap} {v : Value} {l : List P6} (s : Sl6 h v l) : E.call (d + 5) lim 27 [v] h = some (i64 (chkN l), h) := by
  have r := s.rules2
  refine call1 fn27 rfl (by simp [ef27]) ?_
  unfold chkN
  by_cases hl : 60 < l.length
  · have hli : (60 : Int) < l.length := by omega
    have hlk : ¬ (l.length : Int) ≤ 60 := by omega
    simp [ef27, r, hl, hli, hlk]
  have hli : ¬ (60 : Int) < l.length := by omega
  have hlj : (l.length : Int) ≤ 60 := by omega
  rw [if_neg hl]
  generalize hR : fstE (ctErr l) l.length 0 = R
  simp [-collect_own1, ef27, r, hl, hli, hlj, Nat.not_lt.1 hl]
  refine wpC_loop (fun z st => ∃ i : Nat, z = l.length - i ∧ i ≤ l.length ∧ fstE (ctErr l) l.length i = R ∧ (∀ j, j < i → ctErr l j = 0) ∧ st = ⟨[(0, v), (3, i64 (i : Int))], h.freeze⟩) l.length (by show l.length < 2 ^ 64; omega) ?_ ?_
  · simp [-collect_own1, St.tidy, collect_box, s.own, r]
    exact ⟨0, by omega, by omega, hR, fun j hj => by omega, rfl⟩
  · rintro z hz _ ⟨i, rfl, hi, hc, hp, rfl⟩
    by_cases hlt : i < l.length
    · have hlti : (i : Int) < l.length := by omega
      have w1' := w1 (i := i) (by omega)
      have cu := chk_upto hlt (by omega) hp
      have lt := tsL_len l
      obtain ⟨b, o, kk, hv, g, h2, h3, h4⟩ := s.blk (by omega) (by omega)
      have hb := Heap.get_lt g
      subst hv
      simp only [slB_some, slO_some] at r
      have s6 : ∀ L, Sl6 (h.freeze ++ L) (.slice (some ⟨b, o, none⟩) (i + 1) 6) (l.take (i + 1)) := fun L => by
        have := ((Sl_freeze.2 s).app L).subS (f := enc6) (es := 6) (fun _ => rfl) rfl (a := 0) (c := i + 1) (by simp; omega) (by omega) (by omega)
        show Sl 6 _ _ _ _
        simpa using this
      have tt : tsL (l.take (i + 1)) = (tsL l).take (i + 1) := by unfold tsL; rw [List.map_take]
      have k18 := fun (L : Heap) lim => c16 (d := d + 3) (lim := lim) (s6 L) (by rw [List.length_take]; omega)
      rw [tt] at k18
      have ll : ((tsL l).take (i + 1)).length = i + 1 := by rw [List.length_take]; omega
      have ne : ¬ (tsL l).take (i + 1) = [] := fun z => by rw [z] at ll; cases ll
      simp only [tV, tB, if_neg ne, ll] at k18
      have so := fun (L : Heap) (b' n' : Nat) (hg : Heap.get (h.freeze ++ L) b' = some ⟨cS enc4 ((tsL l).take (i + 1)), true⟩) (hn : n' = ((tsL l).take (i + 1)).length) => Sl_own (f := enc4) (es := 4) (fun _ => rfl) hg hn
      have k13 := fun (L : Heap) (b' n' lim : Nat) (hg : Heap.get (h.freeze ++ L) b' = some ⟨cS enc4 ((tsL l).take (i + 1)), true⟩) (hn : n' = ((tsL l).take (i + 1)).length) => c62 (d := d) (lim := lim) (so L b' n' hg hn)
      rw [cu] at k13
      have k18b := fun lim => k18 [] lim
      simp only [List.append_nil] at k18b
      have p := c6_part hlt
      have p2 : ((cS enc6 l).drop (i * 6 + 4)).take 2 = enc2 (at6 l i).2 := by
        have : ((cS enc6 l).drop (i * 6 + 4)).take 2 = (((cS enc6 l).drop (i * 6)).take 6).drop 4 := by rw [List.drop_take, List.drop_drop]
        rw [this, p]; rfl
      have k6 : i * 6 + 4 + 2 ≤ l.length * 6 := by omega
      have tn : ((i : Int) + 1).toNat = i + 1 := by omega
      have hh : (0 : Int) ≤ (i : Int) + 1 := by omega
      have hle : i + 1 ≤ l.length := by omega
      have k37 := fun a lim hh => U.c41 (d := d + 3) (lim := lim) (h := hh) (a := a) (b := -1000000000) (c := 1000000000)
      rw [fstE_lt hlt] at hc
      have ce : ctErr l i = if chkX (at6 l i).1.1 (at6 l i).1.2.1 (at6 l i).1.2.2.1 (at6 l i).1.2.2.2 = 0 then (if has4 ((tsL l).take i) (at6 l i).1 = true then 5 else rErr (at6 l i).2) else chkX (at6 l i).1.1 (at6 l i).1.2.1 (at6 l i).1.2.2.1 (at6 l i).1.2.2.2 := rfl
      generalize has4 ((tsL l).take i) (at6 l i).1 = H at *
      generalize chkX (at6 l i).1.1 (at6 l i).1.2.1 (at6 l i).1.2.2.1 (at6 l i).1.2.2.2 = X at *
      generalize (at6 l i).2 = Y at *
      obtain ⟨y1, y2⟩ := Y
      simp only [enc2] at p2
      by_cases q0 : X = 0
      case neg =>
        rw [if_neg q0] at ce k13
        rw [ce, if_neg q0] at hc
        subst hc
        simp [-collect_own1, hlti, hlt, Nat.not_le.2 hlt, r, E.bound, tn, hh, hle, w1', k18, k18b, k13, ll, q0]
      rw [if_pos q0] at ce k13
      by_cases q1 : H = true
      · rw [if_pos q1] at ce k13
        rw [ce, if_neg (by decide)] at hc
        subst hc
        simp [-collect_own1, hlti, hlt, Nat.not_le.2 hlt, r, E.bound, tn, hh, hle, w1', k18, k18b, k13, ll]
      rw [if_neg q1] at ce k13
      unfold rErr at ce
      simp only at ce
      by_cases q2 : within y1 (-1000000000) 1000000000 = true
      case neg =>
        rw [if_neg (fun z => q2 z.1)] at ce
        rw [ce, if_neg (by decide)] at hc
        subst hc
        simp [-collect_own1, hlti, hlt, Nat.not_le.2 hlt, r, E.bound, tn, hh, hle, w1', k18, k18b, k13, ll, p2, k6, k37, q2]
      by_cases q3 : within y2 (-1000000000) 1000000000 = true
      case neg =>
        rw [if_neg (fun z => q3 z.2)] at ce
        rw [ce, if_neg (by decide)] at hc
        subst hc
        simp [-collect_own1, hlti, hlt, Nat.not_le.2 hlt, r, E.bound, tn, hh, hle, w1', k18, k18b, k13, ll, p2, k6, k37, q2, q3]
      rw [if_pos ⟨q2, q3⟩] at ce
      by_cases q4 : y2 < y1
      · rw [if_pos q4] at ce
        rw [ce, if_neg (by decide)] at hc
        subst hc
        simp [-collect_own1, hlti, hlt, Nat.not_le.2 hlt, r, E.bound, tn, hh, hle, w1', k18, k18b, k13, ll, p2, k6, k37, q2, q3, q4]
      · rw [if_neg q4] at ce
        rw [ce, if_pos rfl] at hc
        have sow := s.own
        simp [-collect_own1, hlti, hlt, Nat.not_le.2 hlt, r, E.bound, tn, hh, hle, w1', k18, k18b, k13, ll, p2, k6, k37, q2, q3, q4, Int.not_lt.1 q4, St.tidy, collect_box, sow]
        exact ⟨l.length - (i + 1), by omega, i + 1, rfl, by omega, hc, fun j hj => by
          by_cases z : j < i
          · exact hp j z
          · obtain rfl : i = j := by omega
            exact ce, by omega⟩
    · obtain rfl : i = l.length := by omega
      rw [fstE_ge (by omega)] at hc
      subst hc
      simp [r]
end H.U
end Go.Abs
