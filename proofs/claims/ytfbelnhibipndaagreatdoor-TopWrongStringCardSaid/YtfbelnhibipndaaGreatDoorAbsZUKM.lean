/- Chapter 7: soundings. -/
import Derived.Test.YtfbelnhibipndaaGreatDoorAbsZUJM
set_option linter.unusedSimpArgs false
set_option linter.unusedVariables false
/- Chapter 7: soundings. -/
namespace Go.Abs
namespace Z.U
set_option maxRecDepth 100000
set_option maxHeartbeats 0
def sErr (l : List P3) (i : Nat) : Int :=
  if within (at3 l i).1 0 87 = true ∧ within (at3 l i).2.1 1 20000000 = true ∧ within (at3 l i).2.2 1 20000000 = true then (if (at3 l i).2.2 < (at3 l i).2.1 ∨ 0 < i ∧ (at3 l i).1 ≤ (at3 l (i - 1)).1 then 9 else 0) else 2
def chkS (l : List P3) : Int := if 88 < l.length then 8 else fstE (sErr l) l.length 0
theorem c107 {d lim : Nat} {h : Heap} {v : Value} {l : List P3} (s : Sl3 h v l) : E.call (d + 3) lim 107 [v] h = some (i64 (chkS l), h) := by
  have r := s.rules2
  refine call1 fn107 rfl (by simp [ef107]) ?_
  by_cases h20 : 88 < l.length
  case pos =>
    have i20 : (88 : Int) < l.length := by omega
    simp [ef107, r, i20, chkS, h20, Int.not_le.2 i20, Nat.not_le.2 h20]
  have i20 : ¬ (88 : Int) < l.length := by omega
  have e0 : chkS l = fstE (sErr l) l.length 0 := by simp [chkS, h20]
  generalize chkS l = E0 at *
  simp [ef107, r, i20, Int.not_lt.1 i20]
  refine wpC_loop (fun q st => ∃ i : Nat, q = l.length - i ∧ i ≤ l.length ∧ fstE (sErr l) l.length i = E0 ∧ st = ⟨[(0, v), (8, v), (9, i64 (l.length : Int)), (10, i64 (i : Int))], h.freeze⟩) l.length (by show l.length < 2 ^ 64; omega) ?_ ?_
  · simp [St.tidy, r]
    exact ⟨0, by omega, by omega, e0.symm, rfl⟩
  · rintro q hq _ ⟨i, rfl, hi, hc, rfl⟩
    by_cases hlt : i < l.length
    · have w1' := w1 (i := i) (by omega)
      have p := c3_part hlt
      have k3 : i * 3 + 3 ≤ l.length * 3 := by omega
      have hlti : (i : Int) < l.length := by omega
      rw [fstE_lt hlt] at hc
      by_cases q1 : within (at3 l i).1 0 87 = true
      case neg =>
        rw [show sErr l i = 2 by simp [sErr, q1], if_neg (by decide)] at hc
        subst hc
        simp [hlti, hlt, Nat.not_le.2 hlt, r, k3, p, c148, q1]
      by_cases q2 : within (at3 l i).2.1 1 20000000 = true
      case neg =>
        rw [show sErr l i = 2 by simp [sErr, q1, q2], if_neg (by decide)] at hc
        subst hc
        simp [hlti, hlt, Nat.not_le.2 hlt, r, k3, p, c148, c54, q1, q2]
      by_cases q3 : within (at3 l i).2.2 1 20000000 = true
      case neg =>
        rw [show sErr l i = 2 by simp [sErr, q1, q2, q3], if_neg (by decide)] at hc
        subst hc
        simp [hlti, hlt, Nat.not_le.2 hlt, r, k3, p, c148, c54, q1, q2, q3]
      by_cases q4 : (at3 l i).2.2 < (at3 l i).2.1
      · rw [show sErr l i = 9 by simp [sErr, q1, q2, q3, q4], if_neg (by decide)] at hc
        subst hc
        simp [hlti, hlt, Nat.not_le.2 hlt, r, k3, p, c148, c54, q1, q2, q3, q4, Int.not_le.2 q4]
      by_cases q5 : 0 < i
      case neg =>
        have q5' : ¬ (0 : Int) < i := by omega
        rw [show sErr l i = 0 by simp [sErr, q1, q2, q3, q4, q5], if_pos rfl] at hc
        simp [hlti, hlt, Nat.not_le.2 hlt, r, k3, p, c148, c54, q1, q2, q3, q4, Int.not_lt.1 q4, q5, q5', w1', St.tidy]
        exact ⟨l.length - (i + 1), by omega, i + 1, by omega, by omega, hc, by omega⟩
      have wm := wm1 q5 (by omega)
      have q5' : (0 : Int) < i := by omega
      have pm := c3_0 (l := l) (i := i - 1) (by omega)
      have km : (i - 1) * 3 < l.length * 3 := by omega
      have km2 : ((i - 1 : Nat) : Int) < l.length := by omega
      by_cases q6 : (at3 l i).1 ≤ (at3 l (i - 1)).1
      · rw [show sErr l i = 9 by simp [sErr, q1, q2, q3, q4, q5, q6], if_neg (by decide)] at hc
        subst hc
        simp [hlti, hlt, Nat.not_le.2 hlt, r, k3, p, c148, c54, q1, q2, q3, q4, Int.not_lt.1 q4, q5, q5', q6, wm, pm, km, km2]
      · rw [show sErr l i = 0 by simp [sErr, q1, q2, q3, q4, q5, q6], if_pos rfl] at hc
        simp [hlti, hlt, Nat.not_le.2 hlt, r, k3, p, c148, c54, q1, q2, q3, q4, Int.not_lt.1 q4, q5, q5', q6, wm, pm, km, km2, w1', St.tidy]
        exact ⟨l.length - (i + 1), by omega, i + 1, by omega, by omega, hc, by omega⟩
    · obtain rfl : i = l.length := by omega
      rw [fstE_ge (by omega)] at hc
      subst hc
      simp [r]
end Z.U
end Go.Abs
/- Chapter 7: what is heard: the reference. -/
namespace Go.Abs
namespace Z.U
set_option maxRecDepth 100000
set_option maxHeartbeats 0
def fndS (s : List P3) (n : Int) : Nat := fstI (fun k => decide ((at3 s k).1 = n)) s.length 0
def sndV (s : List P3) (n : Int) : P2 := if fndS s n < s.length then ((at3 s (fndS s n)).2.1, (at3 s (fndS s n)).2.2) else (0, 0)
def sndB (s : List P3) (n : Int) : Bool := decide (fndS s n < s.length)
/-- Good tests. -/
structure TOk (l : List P4) : Prop where
  len : l.length ≤ 60
  chk : ∀ i, i < l.length → chkX (at4 l i).1 (at4 l i).2.1 (at4 l i).2.2.1 (at4 l i).2.2.2 = 0
  one : ∀ i, i < l.length → ∀ k, k < i → at4 l k ≠ at4 l i
theorem TOk.of {l : List P4} (h : chkTs l = 0) : TOk l := by
  unfold chkTs at h
  by_cases q : 60 < l.length
  · rw [if_pos q] at h; cases h
  rw [if_neg q, fstE_all _ 0 rfl] at h
  have key : ∀ i, i < l.length → chkX (at4 l i).1 (at4 l i).2.1 (at4 l i).2.2.1 (at4 l i).2.2.2 = 0 ∧ ¬ has4 (l.take i) (at4 l i) = true := fun i hi => by
    have := h i (by omega) hi
    unfold tErr at this
    by_cases z : chkX (at4 l i).1 (at4 l i).2.1 (at4 l i).2.2.1 (at4 l i).2.2.2 = 0
    · rw [if_pos z] at this
      refine ⟨z, fun y => ?_⟩
      rw [if_pos y] at this; cases this
    · rw [if_neg z] at this; exact absurd this z
  refine ⟨by omega, fun i hi => (key i hi).1, fun i hi k hk e => (key i hi).2 ?_⟩
  rw [has4_iff]
  exact ⟨k, by rw [List.length_take]; omega, by rw [at4_take hk]; exact e⟩
theorem chkX_0 {n m p q : Int} (h : chkX n m p q = 0) : (0 ≤ n ∧ n ≤ 87) ∧ (0 ≤ m ∧ m ≤ 87) ∧ (1 ≤ p ∧ p ≤ 16) ∧ (1 ≤ q ∧ q ≤ 16) ∧ n < m := by
  unfold chkX at h
  by_cases z : within n 0 87 = true ∧ within m 0 87 = true ∧ within p 1 16 = true ∧ within q 1 16 = true
  · rw [if_pos z] at h
    obtain ⟨a, b, c, e⟩ := z
    have : ∀ {a b c : Int}, within a b c = true ↔ b ≤ a ∧ a ≤ c := by simp [within]
    refine ⟨this.1 a, this.1 b, this.1 c, this.1 e, ?_⟩
    by_cases y : m ≤ n
    · rw [if_pos y] at h; cases h
    · omega
  · rw [if_neg z] at h; cases h
theorem snd_bd {l : List P3} (h : chkS l = 0) (n : Int) : (0 ≤ (sndV l n).1 ∧ (sndV l n).1 ≤ 20000000) ∧ (0 ≤ (sndV l n).2 ∧ (sndV l n).2 ≤ 20000000) := by
  unfold sndV
  by_cases z : fndS l n < l.length
  · rw [if_pos z]
    generalize fndS l n = I at *
    unfold chkS at h
    by_cases q : 88 < l.length
    · rw [if_pos q] at h; cases h
    rw [if_neg q, fstE_all _ 0 rfl] at h
    have := h I (by omega) z
    unfold sErr at this
    by_cases y : within (at3 l I).1 0 87 = true ∧ within (at3 l I).2.1 1 20000000 = true ∧ within (at3 l I).2.2 1 20000000 = true
    · have w : ∀ {a b c : Int}, within a b c = true ↔ b ≤ a ∧ a ≤ c := by simp [within]
      have a := w.1 y.2.1
      have b := w.1 y.2.2
      exact ⟨⟨by show 0 ≤ (at3 l I).2.1; omega, a.2⟩, ⟨by show 0 ≤ (at3 l I).2.2; omega, b.2⟩⟩
    · rw [if_neg y] at this; cases this
  · rw [if_neg z]; exact ⟨⟨by decide, by decide⟩, ⟨by decide, by decide⟩⟩
/-- Counts. -/
abbrev P6 := P4 × P2
def enc6 (x : P6) : List Value := enc4 x.1 ++ enc2 x.2
def hrd (s : List P3) (l : List P4) (i : Nat) : P6 :=
  (at4 l i, ((at4 l i).2.2.2 * (sndV s (at4 l i).2.1).1 - (at4 l i).2.2.1 * (sndV s (at4 l i).1).2, (at4 l i).2.2.2 * (sndV s (at4 l i).2.1).2 - (at4 l i).2.2.1 * (sndV s (at4 l i).1).1))
def hL (s : List P3) (l : List P4) (k : Nat) : List P6 := (List.range k).map (hrd s l)
theorem hL_len (s : List P3) (l : List P4) (k : Nat) : (hL s l k).length = k := by simp [hL]
theorem hL_next (s : List P3) (l : List P4) (k : Nat) : cS enc6 (hL s l k) ++ enc6 (hrd s l k) = cS enc6 (hL s l (k + 1)) := by
  simp [hL, List.range_succ, cS]
theorem c6_len (l : List P6) : (cS enc6 l).length = l.length * 6 := cS_len (f := enc6) (es := 6) (fun _ => rfl) l
theorem c6_plain (l : List P6) : (cS enc6 l).all plainV = true := by simp [cS, List.all_flatMap, enc6, enc4, enc2, plainV]
theorem c6_one (l : List P6) : (cS enc6 l).all Value.oneCell' = true := by simp [cS, List.all_flatMap, enc6, enc4, enc2, Value.oneCell']
def miss (s : List P3) (l : List P4) (i : Nat) : Int := if sndB s (at4 l i).1 = true ∧ sndB s (at4 l i).2.1 = true then 0 else 6
def hErr (s : List P3) (l : List P4) : Int := if chkS s = 0 then (if chkTs l = 0 then fstE (miss s l) l.length 0 else chkTs l) else chkS s
def sl6 (b k : Nat) : Value := if k = 0 then .slice none 0 0 else .slice (some ⟨b, 0, none⟩) k 6
def bl6 (l : List P6) : List (Option Blk) := if l.length = 0 then [] else [some ⟨cS enc6 l, true⟩]
def hVal (s : List P3) (l : List P4) (b : Nat) : Value := .tuple #[if hErr s l = 0 then sl6 b l.length else .slice none 0 0, i64 (hErr s l)]
def hBlk (s : List P3) (l : List P4) : List (Option Blk) := if hErr s l = 0 then bl6 (hL s l l.length) else []
theorem hr_bd {s : List P3} {l : List P4} {i : Nat} (hs : chkS s = 0) (O : TOk l) (hi : i < l.length) :
    (-1000000000 ≤ (at4 l i).2.2.2 * (sndV s (at4 l i).2.1).1 ∧ (at4 l i).2.2.2 * (sndV s (at4 l i).2.1).1 ≤ 1000000000) ∧ (-1000000000 ≤ (at4 l i).2.2.1 * (sndV s (at4 l i).1).2 ∧ (at4 l i).2.2.1 * (sndV s (at4 l i).1).2 ≤ 1000000000) ∧
    (-1000000000 ≤ (at4 l i).2.2.2 * (sndV s (at4 l i).2.1).2 ∧ (at4 l i).2.2.2 * (sndV s (at4 l i).2.1).2 ≤ 1000000000) ∧ (-1000000000 ≤ (at4 l i).2.2.1 * (sndV s (at4 l i).1).1 ∧ (at4 l i).2.2.1 * (sndV s (at4 l i).1).1 ≤ 1000000000) := by
  have key : ∀ {a b : Int}, 1 ≤ a ∧ a ≤ 16 → 0 ≤ b ∧ b ≤ 20000000 → -1000000000 ≤ a * b ∧ a * b ≤ 1000000000 := fun {a b} h1 h2 => by
    have x : 0 ≤ a * b := Int.mul_nonneg (by omega) h2.1
    have y : a * b ≤ 16 * 20000000 := Int.mul_le_mul h1.2 h2.2 h2.1 (by omega)
    omega
  obtain ⟨_, _, hp, hq, _⟩ := chkX_0 (O.chk i hi)
  have a := snd_bd hs (at4 l i).1
  have b := snd_bd hs (at4 l i).2.1
  exact ⟨key hq b.1, key hp a.2, key hq b.2, key hp a.1⟩
end Z.U
end Go.Abs
