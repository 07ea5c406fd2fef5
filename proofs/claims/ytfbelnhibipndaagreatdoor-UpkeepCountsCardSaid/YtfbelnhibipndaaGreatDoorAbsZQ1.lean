/- Chapter 7: counts: their check. -/
import Derived.Test.YtfbelnhibipndaaGreatDoorAbsZP1
import Derived.Test.YtfbelnhibipndaaGreatDoorAbsZUKM
import Derived.Test.YtfbelnhibipndaaGreatDoorAbsWpN
set_option linter.unusedSimpArgs false
set_option linter.unusedVariables false
namespace Go.Abs
namespace Z.U
set_option maxRecDepth 100000
set_option maxHeartbeats 0
set_option linter.unusedSimpArgs false
abbrev Sl6 (h : Heap) (v : Value) (l : List P6) : Prop := Sl 6 h v l.length (cS enc6 l)
def at6 (l : List P6) (i : Nat) : P6 := (l[i]?).getD ((0, 0, 0, 0), (0, 0))
def tsL (l : List P6) : List P4 := l.map (·.1)
theorem tsL_len (l : List P6) : (tsL l).length = l.length := by simp [tsL]
theorem at4_ts {l : List P6} {i : Nat} (h : i < l.length) : at4 (tsL l) i = (at6 l i).1 := by
  unfold at4 at6 tsL
  rw [List.getElem?_map, List.getElem?_eq_getElem h]; rfl
theorem c6_part {l : List P6} {i : Nat} (h : i < l.length) : ((cS enc6 l).drop (i * 6)).take 6 = enc6 (at6 l i) := by
  rw [cS_part (f := enc6) (es := 6) (fun _ => rfl) l i h]
  unfold at6; rw [List.getElem?_eq_getElem h]; rfl
/-- The error of a range of beats. -/
def rErr (r : P2) : Int := if within r.1 (-1000000000) 1000000000 = true ∧ within r.2 (-1000000000) 1000000000 = true then (if r.2 < r.1 then 9 else 0) else 2
def cErr (l : List P6) (i : Nat) : Int := if chkX (at6 l i).1.1 (at6 l i).1.2.1 (at6 l i).1.2.2.1 (at6 l i).1.2.2.2 = 0 then (if has4 ((tsL l).take i) (at6 l i).1 = true then 5 else rErr (at6 l i).2) else chkX (at6 l i).1.1 (at6 l i).1.2.1 (at6 l i).1.2.2.1 (at6 l i).1.2.2.2
def chkN (l : List P6) : Int := if 60 < l.length then 8 else fstE (cErr l) l.length 0
def ekT (x : P4) : Value := .agg #[i64 x.1, i64 x.2.1, i64 x.2.2.1, i64 x.2.2.2]
def evB (b : Bool) : Value := .bool b
theorem same_ekT (a b : P4) : E.sameKey (ekT a) (ekT b) = some (decide (a = b)) := by
  obtain ⟨a1, a2, a3, a4⟩ := a
  obtain ⟨b1, b2, b3, b4⟩ := b
  simp only [E.sameKey, ekT, E.cellsSame, if_true, Option.map_some]
  congr 1
  rw [Bool.eq_iff_iff]
  simp [Prod.ext_iff]
def knL (l : List P6) (i : Nat) : List (P4 × Bool) := ((tsL l).take i).map fun x => (x, true)
theorem look_map (k : P4) : ∀ L : List P4, mLook (L.map fun x => (x, true)) k = if k ∈ L then some true else none
  | [] => rfl
  | x :: L => by
    rw [List.map_cons]
    unfold mLook
    by_cases q : k = x
    · rw [if_pos q, if_pos (by simp [q])]
    · rw [if_neg q, look_map k L]
      by_cases z : k ∈ L
      · rw [if_pos z, if_pos (by simp [z])]
      · rw [if_neg z, if_neg (by simp [z, q])]
theorem mem_at4 {L : List P4} {x : P4} : x ∈ L ↔ ∃ k, k < L.length ∧ at4 L k = x := by
  constructor
  · intro h
    obtain ⟨k, hk, e⟩ := List.getElem_of_mem h
    exact ⟨k, hk, by rw [← at4_get hk, e]⟩
  · rintro ⟨k, hk, rfl⟩
    rw [← at4_get hk]; exact List.getElem_mem hk
theorem kn_look (l : List P6) (i : Nat) (k : P4) : mLook (knL l i) k = if has4 ((tsL l).take i) k = true then some true else none := by
  unfold knL
  rw [look_map]
  by_cases z : k ∈ (tsL l).take i
  · rw [if_pos z, if_pos (has4_iff.2 (mem_at4.1 z))]
  · rw [if_neg z, if_neg fun y => z (mem_at4.2 (has4_iff.1 y))]
theorem kn_succ {l : List P6} {i : Nat} (h : i < l.length) : knL l i ++ [((at6 l i).1, true)] = knL l (i + 1) := by
  unfold knL
  rw [List.take_add_one, List.map_append]
  congr 1
  have : (tsL l)[i]? = some (at6 l i).1 := by
    unfold tsL at6
    rw [List.getElem?_map, List.getElem?_eq_getElem h]; rfl
  rw [this]; rfl
theorem kn_no (l : List P6) (i : Nat) : (encMap ekT evB (knL l i)).all (lowV 0 4) = true :=
  encMap_no (fun k => by simp [ekT, lowV]) (fun v => by simp [evB, lowV]) _
theorem c19 {d lim : Nat} {h : Heap} {v : Value} {l : List P6} (s : Sl6 h v l) : E.call (d + 5) lim 19 [v] h = some (i64 (chkN l), h) := by
  have r := s.rules2
  refine call1 fn19 rfl (by simp [ef19]) ?_
  unfold chkN
  by_cases hl : 60 < l.length
  · have hli : (60 : Int) < l.length := by omega
    have hlk : ¬ (l.length : Int) ≤ 60 := by omega
    simp [ef19, r, hl, hli, hlk]
  have hli : ¬ (60 : Int) < l.length := by omega
  have hlj : (l.length : Int) ≤ 60 := by omega
  rw [if_neg hl]
  generalize hR : fstE (cErr l) l.length 0 = R
  simp [-collect_own1, ef19, r, hl, hli, hlj, Nat.not_lt.1 hl]
  refine wpC_loop (fun z st => ∃ i : Nat, z = l.length - i ∧ i ≤ l.length ∧ fstE (cErr l) l.length i = R ∧ st = ⟨[(3, .map (some h.length)), (11, v), (12, i64 (l.length : Int)), (13, i64 (i : Int))], h.freeze ++ [some ⟨encMap ekT evB (knL l i), true⟩]⟩) l.length (by show l.length < 2 ^ 64; omega) ?_ ?_
  · simp [-collect_own1, St.tidy, collect_box, s.own, r]
    exact ⟨0, by omega, by omega, hR, by simp [knL, encMap]⟩
  · rintro z hz _ ⟨i, rfl, hi, hc, rfl⟩
    by_cases hlt : i < l.length
    · have hlti : (i : Int) < l.length := by omega
      have w1' := w1 (i := i) (by omega)
      have p := c6_part hlt
      have k6 : i * 6 + 6 ≤ l.length * 6 := by omega
      have mget := fun k => mapVal_enc (ek := ekT) (ev := evB) same_ekT (knL l i) k
      have mno := kn_no l i
      have mno1 := kn_no l (i + 1)
      have mput : has4 ((tsL l).take i) (at6 l i).1 = false → ∀ x, E.mapPut (ekT (at6 l i).1) x (encMap ekT evB (knL l i)) = some (encMap ekT evB (knL l i) ++ [.tuple #[ekT (at6 l i).1, x]]) := fun y x => mapPut_new (ek := ekT) same_ekT (by rw [kn_look, y]; rfl) x
      have msn : encMap ekT evB (knL l i) ++ [.tuple #[ekT (at6 l i).1, evB true]] = encMap ekT evB (knL l (i + 1)) := by rw [← kn_succ hlt, ← encMap_snoc]
      have pp : ∀ L, i = 0 → Heap.part (h.freeze ++ L) (slB v) (slO v) 6 = some (.agg (enc6 (at6 l i)).toArray) := fun L hi0 => by
        subst hi0
        have := ((Sl_freeze.2 s).app L).part (k := 0) (m := 6) (by omega) (by decide)
        rw [Nat.add_zero] at this
        rw [this, show (0 : Nat) = 0 * 6 from rfl, c6_part (by omega)]
      have s0 : slAt 6 v (i64 0) = some (.pointer (some ⟨slB v, slO v, none⟩)) := by have := s.at (k := .i64) (i := 0) (by omega) (by omega); simpa using this
      rw [fstE_lt hlt] at hc
      have ce : cErr l i = if chkX (at6 l i).1.1 (at6 l i).1.2.1 (at6 l i).1.2.2.1 (at6 l i).1.2.2.2 = 0 then (if has4 ((tsL l).take i) (at6 l i).1 = true then 5 else rErr (at6 l i).2) else chkX (at6 l i).1.1 (at6 l i).1.2.1 (at6 l i).1.2.2.1 (at6 l i).1.2.2.2 := rfl
      have mg := mget (at6 l i).1
      rw [kn_look] at mg
      generalize hM1 : encMap ekT evB (knL l (i + 1)) = M1 at *
      generalize encMap ekT evB (knL l i) = M at *
      generalize has4 ((tsL l).take i) (at6 l i).1 = H at *
      generalize at6 l i = X at *
      obtain ⟨⟨x1, x2, x3, x4⟩, y1, y2⟩ := X
      simp only [enc6, enc4, enc2, List.cons_append, List.nil_append] at p pp
      simp only [ekT] at mg mput msn
      simp only at ce
      have k47 := fun lim hh => U.c47 (d := d + 1) (lim := lim) (h := hh) (n := x1) (m := x2) (p := x3) (q := x4)
      have k54 := fun a lim hh => U.c54 (d := d + 3) (lim := lim) (h := hh) (a := a) (b := -1000000000) (c := 1000000000)
      by_cases q0 : chkX x1 x2 x3 x4 = 0
      case neg =>
        rw [if_neg q0] at ce
        rw [ce, if_neg q0] at hc
        subst hc
        rcases Nat.eq_zero_or_pos i with z0 | z0
        · subst z0
          have pp0 := fun L => pp L rfl
          simp [hlt, s0, pp0, r, k47, q0]
        · simp [hlti, hlt, Nat.not_le.2 hlt, r, p, k6, k47, q0]
      rw [if_pos q0] at ce
      by_cases q1 : H = true
      · rw [if_pos q1] at ce mg
        rw [ce, if_neg (by decide)] at hc
        subst hc
        rcases Nat.eq_zero_or_pos i with z0 | z0
        · subst z0
          have pp0 := fun L => pp L rfl
          simp [hlt, s0, pp0, r, k47, q0, mg, evB, E.isKey, E.eqCells]
        · simp [hlti, hlt, Nat.not_le.2 hlt, r, p, k6, k47, q0, mg, evB, E.isKey, E.eqCells]
      have q1' : H = false := by simpa using q1
      rw [if_neg q1] at ce mg
      have mput := mput q1'
      unfold rErr at ce
      simp only at ce
      have nb : noAddr (Value.bool true) = true := rfl
      by_cases q2 : within y1 (-1000000000) 1000000000 = true
      case neg =>
        rw [if_neg (fun z => q2 z.1)] at ce
        rw [ce, if_neg (by decide)] at hc
        subst hc
        rcases Nat.eq_zero_or_pos i with z0 | z0
        · subst z0
          have pp0 := fun L => pp L rfl
          simp [hlt, s0, pp0, r, k47, q0, mg, evB, E.isKey, E.eqCells, k54, q2]
        · simp [hlti, hlt, Nat.not_le.2 hlt, r, p, k6, k47, q0, mg, evB, E.isKey, E.eqCells, k54, q2]
      by_cases q3 : within y2 (-1000000000) 1000000000 = true
      case neg =>
        rw [if_neg (fun z => q3 z.2)] at ce
        rw [ce, if_neg (by decide)] at hc
        subst hc
        rcases Nat.eq_zero_or_pos i with z0 | z0
        · subst z0
          have pp0 := fun L => pp L rfl
          simp [hlt, s0, pp0, r, k47, q0, mg, evB, E.isKey, E.eqCells, k54, q2, q3]
        · simp [hlti, hlt, Nat.not_le.2 hlt, r, p, k6, k47, q0, mg, evB, E.isKey, E.eqCells, k54, q2, q3]
      rw [if_pos ⟨q2, q3⟩] at ce
      by_cases q4 : y2 < y1
      · rw [if_pos q4] at ce
        rw [ce, if_neg (by decide)] at hc
        subst hc
        rcases Nat.eq_zero_or_pos i with z0 | z0
        · subst z0
          have pp0 := fun L => pp L rfl
          simp [hlt, s0, pp0, r, k47, q0, mg, evB, E.isKey, E.eqCells, k54, q2, q3, q4]
        · simp [hlti, hlt, Nat.not_le.2 hlt, r, p, k6, k47, q0, mg, evB, E.isKey, E.eqCells, k54, q2, q3, q4]
      · rw [if_neg q4] at ce
        rw [ce, if_pos rfl] at hc
        simp only [evB] at msn
        rcases Nat.eq_zero_or_pos i with z0 | z0
        · subst z0
          have pp0 := fun L => pp L rfl
          simp [-collect_own1, hlt, s0, pp0, r, k47, q0, mg, evB, E.isKey, E.eqCells, k54, q2, q3, q4, Int.not_lt.1 q4, mput, msn, w1', mno, mno1, St.tidy, collect_box, s.own]
          exact ⟨l.length - 1, by omega, 1, rfl, by omega, hc, rfl, hM1.symm⟩
        · simp [-collect_own1, hlti, hlt, Nat.not_le.2 hlt, r, p, k6, k47, q0, mg, evB, E.isKey, E.eqCells, k54, q2, q3, q4, Int.not_lt.1 q4, mput, msn, w1', mno, mno1, St.tidy, collect_box, s.own]
          exact ⟨l.length - (i + 1), by omega, i + 1, rfl, by omega, hc, by omega, hM1.symm⟩
    · obtain rfl : i = l.length := by omega
      rw [fstE_ge (by omega)] at hc
      subst hc
      simp [r]
end Z.U
end Go.Abs
