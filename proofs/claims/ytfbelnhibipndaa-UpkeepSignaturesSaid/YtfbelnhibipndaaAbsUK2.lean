/- Chapter 7: what is heard: the reference. -/
import Derived.Test.YtfbelnhibipndaaAbsUK1
set_option linter.unusedSimpArgs false
set_option linter.unusedVariables false
namespace Go.Abs
namespace U
set_option maxRecDepth 100000
set_option maxHeartbeats 0
def fndS (s : List P3) (n : Int) : Nat := fstI (fun k => decide ((at3 s k).1 = n)) s.length 0
def sndV (s : List P3) (n : Int) : P2 := if fndS s n < s.length then ((at3 s (fndS s n)).2.1, (at3 s (fndS s n)).2.2) else (0, 0)
def sndB (s : List P3) (n : Int) : Bool := decide (fndS s n < s.length)
theorem c82 {d lim : Nat} {h : Heap} {v : Value} {l : List P3} {n : Int} (s : Sl3 h v l) (hl : l.length ≤ 100000) :
    E.call (d + 1) lim 82 [v, i64 n] h = some (.tuple #[v2 (sndV l n), .bool (sndB l n)], h) := by
  have r := s.rules2
  refine call1 fn82 rfl (by simp [ef82]) ?_
  unfold sndV sndB
  generalize hI : fndS l n = I
  unfold fndS at hI
  simp [ef82, r]
  refine wpC_loop (fun z st => ∃ i : Nat, z = l.length - i ∧ i ≤ l.length ∧ fstI (fun k => decide ((at3 l k).1 = n)) l.length i = I ∧ st = ⟨[(0, v), (1, i64 n), (4, .pointer (some ⟨h.length, 0, none⟩)), (6, i64 (i : Int))], h.freeze ++ [some ⟨[i64 0, i64 0], true⟩]⟩) l.length (by show l.length < 2 ^ 64; omega) ?_ ?_
  · simp [-collect_own1, St.tidy, collect_box, s.own, r]
    exact ⟨0, by omega, by omega, hI, by simp⟩
  · rintro z hz _ ⟨i, rfl, hi, hc, rfl⟩
    by_cases hlt : i < l.length
    · have hlti : (i : Int) < l.length := by omega
      have w1' := w1 (i := i) (by omega)
      have p := c3_part hlt
      have p0 := c3_0 hlt
      have k0 : i * 3 < l.length * 3 := by omega
      have k1 : i * 3 + 1 + 2 ≤ l.length * 3 := by omega
      have p12 : ((cS enc3 l).drop (i * 3 + 1)).take 2 = [i64 (at3 l i).2.1, i64 (at3 l i).2.2] := by
        have : ((cS enc3 l).drop (i * 3 + 1)).take 2 = (((cS enc3 l).drop (i * 3)).take 3).drop 1 := by
          rw [List.drop_take, List.drop_drop]
        rw [this, p]; rfl
      rw [fstI_lt hlt] at hc
      by_cases e : (at3 l i).1 = n
      · rw [if_pos (decide_eq_true e)] at hc
        subst hc
        simp [hlti, hlt, Nat.not_le.2 hlt, r, p0, k0, k1, p12, e]
      · rw [if_neg (by simp [e])] at hc
        simp [-collect_own1, hlti, hlt, Nat.not_le.2 hlt, r, p0, k0, e, w1', St.tidy, collect_box, s.own]
        exact ⟨l.length - (i + 1), by omega, i + 1, by omega, by omega, hc, by omega⟩
    · obtain rfl : i = l.length := by omega
      rw [fstI_ge (by omega)] at hc
      subst hc
      simp [r]
/-- Good tests. -/
structure TOk (l : List P4) : Prop where
  len : l.length ≤ 60
  chk : ∀ i, i < l.length → chkX (at4 l i).1 (at4 l i).2.1 (at4 l i).2.2.1 (at4 l i).2.2.2 = 0
  one : ∀ i, i < l.length → ∀ k, k < i → at4 l k ≠ at4 l i
theorem TOk.of {l : List P4} (h : chkTs l = 0) : TOk l := by
  unfold chkTs at h
  by_cases q : 60 < l.length
  · rw [if_pos q] at h; cases h
  rw [if_neg q, fstE_all _ 0 rfl] at h
  have key : ∀ i, i < l.length → chkX (at4 l i).1 (at4 l i).2.1 (at4 l i).2.2.1 (at4 l i).2.2.2 = 0 ∧ ¬ has4 (l.take i) (at4 l i) = true := fun i hi => by
    have := h i (by omega) hi
    unfold tErr at this
    by_cases z : chkX (at4 l i).1 (at4 l i).2.1 (at4 l i).2.2.1 (at4 l i).2.2.2 = 0
    · rw [if_pos z] at this
      refine ⟨z, fun y => ?_⟩
      rw [if_pos y] at this; cases this
    · rw [if_neg z] at this; exact absurd this z
  refine ⟨by omega, fun i hi => (key i hi).1, fun i hi k hk e => (key i hi).2 ?_⟩
  rw [has4_iff]
  exact ⟨k, by rw [List.length_take]; omega, by rw [at4_take hk]; exact e⟩
theorem chkX_0 {n m p q : Int} (h : chkX n m p q = 0) : (0 ≤ n ∧ n ≤ 87) ∧ (0 ≤ m ∧ m ≤ 87) ∧ (1 ≤ p ∧ p ≤ 16) ∧ (1 ≤ q ∧ q ≤ 16) ∧ n < m := by
  unfold chkX at h
  by_cases z : within n 0 87 = true ∧ within m 0 87 = true ∧ within p 1 16 = true ∧ within q 1 16 = true
  · rw [if_pos z] at h
    obtain ⟨a, b, c, e⟩ := z
    have : ∀ {a b c : Int}, within a b c = true ↔ b ≤ a ∧ a ≤ c := by simp [within]
    refine ⟨this.1 a, this.1 b, this.1 c, this.1 e, ?_⟩
    by_cases y : m ≤ n
    · rw [if_pos y] at h; cases h
    · omega
  · rw [if_neg z] at h; cases h
theorem snd_bd {l : List P3} (h : chkS l = 0) (n : Int) : (0 ≤ (sndV l n).1 ∧ (sndV l n).1 ≤ 20000000) ∧ (0 ≤ (sndV l n).2 ∧ (sndV l n).2 ≤ 20000000) := by
  unfold sndV
  by_cases z : fndS l n < l.length
  · rw [if_pos z]
    generalize fndS l n = I at *
    unfold chkS at h
    by_cases q : 88 < l.length
    · rw [if_pos q] at h; cases h
    rw [if_neg q, fstE_all _ 0 rfl] at h
    have := h I (by omega) z
    unfold sErr at this
    by_cases y : within (at3 l I).1 0 87 = true ∧ within (at3 l I).2.1 1 20000000 = true ∧ within (at3 l I).2.2 1 20000000 = true
    · have w : ∀ {a b c : Int}, within a b c = true ↔ b ≤ a ∧ a ≤ c := by simp [within]
      have a := w.1 y.2.1
      have b := w.1 y.2.2
      exact ⟨⟨by show 0 ≤ (at3 l I).2.1; omega, a.2⟩, ⟨by show 0 ≤ (at3 l I).2.2; omega, b.2⟩⟩
    · rw [if_neg y] at this; cases this
  · rw [if_neg z]; exact ⟨⟨by decide, by decide⟩, ⟨by decide, by decide⟩⟩
/-- Counts. -/
abbrev P6 := P4 × P2
def enc6 (x : P6) : List Value := enc4 x.1 ++ enc2 x.2
def hrd (s : List P3) (l : List P4) (i : Nat) : P6 :=
  (at4 l i, ((at4 l i).2.2.2 * (sndV s (at4 l i).2.1).1 - (at4 l i).2.2.1 * (sndV s (at4 l i).1).2, (at4 l i).2.2.2 * (sndV s (at4 l i).2.1).2 - (at4 l i).2.2.1 * (sndV s (at4 l i).1).1))
def hL (s : List P3) (l : List P4) (k : Nat) : List P6 := (List.range k).map (hrd s l)
theorem hL_len (s : List P3) (l : List P4) (k : Nat) : (hL s l k).length = k := by simp [hL]
theorem hL_next (s : List P3) (l : List P4) (k : Nat) : cS enc6 (hL s l k) ++ enc6 (hrd s l k) = cS enc6 (hL s l (k + 1)) := by
  simp [hL, List.range_succ, cS]
theorem c6_len (l : List P6) : (cS enc6 l).length = l.length * 6 := cS_len (f := enc6) (es := 6) (fun _ => rfl) l
theorem c6_plain (l : List P6) : (cS enc6 l).all plainV = true := by simp [cS, List.all_flatMap, enc6, enc4, enc2, plainV]
theorem c6_one (l : List P6) : (cS enc6 l).all Value.oneCell' = true := by simp [cS, List.all_flatMap, enc6, enc4, enc2, Value.oneCell']
def miss (s : List P3) (l : List P4) (i : Nat) : Int := if sndB s (at4 l i).1 = true ∧ sndB s (at4 l i).2.1 = true then 0 else 6
def hErr (s : List P3) (l : List P4) : Int := if chkS s = 0 then (if chkTs l = 0 then fstE (miss s l) l.length 0 else chkTs l) else chkS s
def sl6 (b k : Nat) : Value := if k = 0 then .slice none 0 0 else .slice (some ⟨b, 0, none⟩) k 6
def bl6 (l : List P6) : List (Option Blk) := if l.length = 0 then [] else [some ⟨cS enc6 l, true⟩]
def hVal (s : List P3) (l : List P4) (b : Nat) : Value := .tuple #[if hErr s l = 0 then sl6 b l.length else .slice none 0 0, i64 (hErr s l)]
def hBlk (s : List P3) (l : List P4) : List (Option Blk) := if hErr s l = 0 then bl6 (hL s l l.length) else []
theorem hr_bd {s : List P3} {l : List P4} {i : Nat} (hs : chkS s = 0) (O : TOk l) (hi : i < l.length) :
    (-1000000000 ≤ (at4 l i).2.2.2 * (sndV s (at4 l i).2.1).1 ∧ (at4 l i).2.2.2 * (sndV s (at4 l i).2.1).1 ≤ 1000000000) ∧ (-1000000000 ≤ (at4 l i).2.2.1 * (sndV s (at4 l i).1).2 ∧ (at4 l i).2.2.1 * (sndV s (at4 l i).1).2 ≤ 1000000000) ∧
    (-1000000000 ≤ (at4 l i).2.2.2 * (sndV s (at4 l i).2.1).2 ∧ (at4 l i).2.2.2 * (sndV s (at4 l i).2.1).2 ≤ 1000000000) ∧ (-1000000000 ≤ (at4 l i).2.2.1 * (sndV s (at4 l i).1).1 ∧ (at4 l i).2.2.1 * (sndV s (at4 l i).1).1 ≤ 1000000000) := by
  have key : ∀ {a b : Int}, 1 ≤ a ∧ a ≤ 16 → 0 ≤ b ∧ b ≤ 20000000 → -1000000000 ≤ a * b ∧ a * b ≤ 1000000000 := fun {a b} h1 h2 => by
    have x : 0 ≤ a * b := Int.mul_nonneg (by omega) h2.1
    have y : a * b ≤ 16 * 20000000 := Int.mul_le_mul h1.2 h2.2 h2.1 (by omega)
    omega
  obtain ⟨_, _, hp, hq, _⟩ := chkX_0 (O.chk i hi)
  have a := snd_bd hs (at4 l i).1
  have b := snd_bd hs (at4 l i).2.1
  exact ⟨key hq b.1, key hp a.2, key hq b.2, key hp a.1⟩
theorem c42 {d lim : Nat} {h : Heap} {v w : Value} {g : List P3} {l : List P4} (s : Sl3 h v g) (t : Sl4 h w l) :
    E.call (d + 5) lim 42 [v, w] h = some (hVal g l h.length, h ++ hBlk g l) := by
  have r := s.rules2
  have r' := t.rules2
  have k81 := fun lim => c81 (d := d + 1) (lim := lim) (Sl_freeze.2 s)
  have k55 := fun lim => c55 (d := d) (lim := lim) (Sl_freeze.2 t)
  refine call_pure fn42 rfl (by simp [ef42]) ?_
  unfold hVal hBlk
  by_cases q0 : chkS g = 0
  case neg =>
    rw [show hErr g l = chkS g by unfold hErr; rw [if_neg q0]]
    simp [ef42, k81, q0]
  by_cases q1 : chkTs l = 0
  case neg =>
    rw [show hErr g l = chkTs l by unfold hErr; rw [if_pos q0, if_neg q1]]
    simp [ef42, k81, k55, q0, q1]
  have O := TOk.of q1
  have gl : g.length ≤ 88 := by
    unfold chkS at q0
    by_cases z : 88 < g.length
    · rw [if_pos z] at q0; cases q0
    · omega
  have eE : hErr g l = fstE (miss g l) l.length 0 := by unfold hErr; rw [if_pos q0, if_pos q1]
  generalize hErr g l = Er at *
  have ol := O.len
  simp [ef42, k81, k55, q0, q1]
  refine wpC_loop (fun z st => ∃ i : Nat, z = l.length - i ∧ i ≤ l.length ∧ fstE (miss g l) l.length i = Er ∧ st = ⟨[(0, v), (1, w), (8, sl6 h.length i), (9, i64 (i : Int))], h.freeze ++ bl6 (hL g l i)⟩) l.length (by show l.length < 2 ^ 64; omega) ?_ ?_
  · simp [St.tidy, r, r']
    exact ⟨0, by omega, by omega, eE.symm, by simp [sl6, bl6, hL]⟩
  · rintro z hz _ ⟨i, rfl, hi, hc, rfl⟩
    by_cases hlt : i < l.length
    · have hlti : (i : Int) < l.length := by omega
      have w1' := w1 (i := i) (by omega)
      have p4 := c4_part hlt
      have k4 : i * 4 + 4 ≤ l.length * 4 := by omega
      have hnx := hL_next g l i
      have hln := hL_len g l i
      have hln1 := hL_len g l (i + 1)
      obtain ⟨b1, b2, b3, b4⟩ := hr_bd q0 O hlt
      have k82a := fun (L : Heap) lim => c82 (d := d + 3) (lim := lim) (n := (at4 l i).1) ((Sl_freeze.2 s).app L) (by omega)
      have k82b := fun (L : Heap) lim => c82 (d := d + 3) (lim := lim) (n := (at4 l i).2.1) ((Sl_freeze.2 s).app L) (by omega)
      have eh : enc6 (hrd g l i) = [i64 (at4 l i).1, i64 (at4 l i).2.1, i64 (at4 l i).2.2.1, i64 (at4 l i).2.2.2, i64 ((at4 l i).2.2.2 * (sndV g (at4 l i).2.1).1 - (at4 l i).2.2.1 * (sndV g (at4 l i).1).2), i64 ((at4 l i).2.2.2 * (sndV g (at4 l i).2.1).2 - (at4 l i).2.2.1 * (sndV g (at4 l i).1).1)] := rfl
      rw [eh] at hnx
      rw [fstE_lt hlt] at hc
      generalize hA : (at4 l i).2.2.2 * (sndV g (at4 l i).2.1).1 = A at *
      generalize hB : (at4 l i).2.2.1 * (sndV g (at4 l i).1).2 = B at *
      generalize hC : (at4 l i).2.2.2 * (sndV g (at4 l i).2.1).2 = C at *
      generalize hD : (at4 l i).2.2.1 * (sndV g (at4 l i).1).1 = D at *
      have wA : IntKind.wrap .i64 A = A := wrap_eq (by omega) (by omega)
      have wB : IntKind.wrap .i64 B = B := wrap_eq (by omega) (by omega)
      have wC : IntKind.wrap .i64 C = C := wrap_eq (by omega) (by omega)
      have wD : IntKind.wrap .i64 D = D := wrap_eq (by omega) (by omega)
      have wAB : IntKind.wrap .i64 (A - B) = A - B := wrap_eq (by omega) (by omega)
      have wCD : IntKind.wrap .i64 (C - D) = C - D := wrap_eq (by omega) (by omega)
      by_cases e1 : sndB g (at4 l i).1 = true
      case neg =>
        rw [show miss g l i = 6 by unfold miss; rw [if_neg (fun z => e1 z.1)], if_neg (by decide)] at hc
        subst hc
        simp [hlti, hlt, Nat.not_le.2 hlt, r, r', p4, k4, k82a, k82b, e1]
      by_cases e2 : sndB g (at4 l i).2.1 = true
      case neg =>
        rw [show miss g l i = 6 by unfold miss; rw [if_neg (fun z => e2 z.2)], if_neg (by decide)] at hc
        subst hc
        simp [hlti, hlt, Nat.not_le.2 hlt, r, r', p4, k4, k82a, k82b, e1, e2]
      rw [show miss g l i = 0 by unfold miss; rw [if_pos ⟨e1, e2⟩], if_pos rfl] at hc
      have c1 := c6_one (hL g l i)
      have cl := c6_len (hL g l i)
      have cp := c6_plain (hL g l (i + 1))
      rw [hln] at cl
      rcases Nat.eq_zero_or_pos i with z0 | z0
      · subst z0
        have s0 : slAt 4 w (i64 0) = some (.pointer (some ⟨slB w, slO w, none⟩)) := by have := t.at (k := .i64) (i := 0) (by omega) (by omega); simpa using this
        have pp : h.part (slB w) (slO w) 4 = some (.agg #[i64 (at4 l 0).1, i64 (at4 l 0).2.1, i64 (at4 l 0).2.2.1, i64 (at4 l 0).2.2.2]) := by
          have := t.part (k := 0) (m := 4) (by omega) (by decide)
          rw [Nat.add_zero] at this
          rw [this, show (0 : Nat) = 0 * 4 from rfl, p4]
        rw [show cS enc6 (hL g l 0) = [] from rfl, List.nil_append] at hnx
        simp [-collect_own1, sl6, bl6, hln, s0, pp, hlt, r, r', k82a, k82b, e1, e2, hA, hB, hC, hD, wA, wB, wC, wD, wAB, wCD, fillL, zeros, E.append, E.added, w1', St.tidy, collect_box, s.own, t.own]
        exact ⟨by decide, l.length - 1, by omega, 1, by omega, by omega, hc, ⟨rfl, rfl⟩, by rw [if_neg (fun z => by rw [z] at hln1; cases hln1)]; exact congrArg (fun c => [some (Blk.mk c true)]) hnx⟩
      · have n0 : i ≠ 0 := by omega
        simp [-collect_own1, sl6, bl6, hln, n0, hlti, hlt, Nat.not_le.2 hlt, r, r', p4, k4, k82a, k82b, e1, e2, hA, hB, hC, hD, wA, wB, wC, wD, wAB, wCD, fillL, zeros, E.append, E.added, cl, hnx, cp, w1', St.tidy, collect_box, s.own, t.own]
        refine ⟨⟨by omega, by unfold maxLen; omega⟩, l.length - (i + 1), by omega, i + 1, by omega, by omega, hc, ⟨by rw [if_neg (by omega)], by omega⟩, ?_⟩
        rw [if_neg (fun z => by rw [z] at hln1; cases hln1)]
    · obtain rfl : i = l.length := by omega
      rw [fstE_ge (by omega)] at hc
      subst hc
      have cp := c6_plain (hL g l l.length)
      have hln := hL_len g l l.length
      by_cases zl : l.length = 0
      · have e0 : hL g l 0 = [] := rfl
        simp [r, r', sl6, bl6, zl, e0]
      · simp [r, r', sl6, bl6, zl, cp, hln]
end U
end Go.Abs
