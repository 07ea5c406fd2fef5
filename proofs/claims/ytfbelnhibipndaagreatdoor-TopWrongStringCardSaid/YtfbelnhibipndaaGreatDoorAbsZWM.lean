/- What is heard of a tuned instrument, but for one string: soundings. -/
import Derived.Test.YtfbelnhibipndaaGreatDoorAbsZW1
import Derived.Test.YtfbelnhibipndaaGreatDoorAbsZUKN
import Derived.Test.YtfbelnhibipndaaGreatDoorAbsZUMN
import Derived.Test.YtfbelnhibipndaaGreatDoorAbsZQM
import Derived.Test.YtfbelnhibipndaaGreatDoorAbsZEM
import Derived.Test.YtfbelnhibipndaaGreatDoorAbsZ3M
import Derived.Test.YtfbelnhibipndaaGreatDoorAbsZUKM
set_option linter.unusedSimpArgs false
set_option linter.unusedVariables false
/- What is heard of a tuned instrument, but for one string: soundings. -/
namespace Go.Abs
namespace Z.U
set_option maxRecDepth 100000
set_option maxHeartbeats 0
/-- By how much a note is out of tune. -/
def shf (X b n : Int) : Int := if n = X then b else 0
def sdg (Lf Hf : Nat → Nat) (X b n : Int) : P3 := (n, ((Lf n.toNat : Int) + shf X b n, (Hf n.toNat : Int) + shf X b n))
def sdL (Lf Hf : Nat → Nat) (X b : Int) (N : List Int) : List P3 := N.map (sdg Lf Hf X b)
theorem sdL_len (Lf Hf : Nat → Nat) (X b : Int) (N : List Int) : (sdL Lf Hf X b N).length = N.length := by simp [sdL]
theorem at3_sd {Lf Hf : Nat → Nat} {X b : Int} {N : List Int} {i : Nat} (h : i < N.length) : at3 (sdL Lf Hf X b N) i = sdg Lf Hf X b (gI N i) := by
  unfold at3 sdL
  rw [List.getElem?_map, List.getElem?_eq_getElem h, gI_eq h]; rfl
/-- The frequencies of all notes are good. -/
structure FrOk (Lf Hf : Nat → Nat) (b : Int) : Prop where
  bd : ∀ n, n ≤ 87 → 1 ≤ Lf n ∧ Lf n ≤ Hf n ∧ Hf n ≤ Lf n + 1 ∧ (Hf n : Int) + b ≤ 20000000
  b0 : 0 ≤ b
theorem shf_bd {X b n : Int} (h : 0 ≤ b) : 0 ≤ shf X b n ∧ shf X b n ≤ b := by
  unfold shf
  split <;> omega
theorem chkS_sd {Lf Hf : Nat → Nat} {X b : Int} {N : List Int} (f : FrOk Lf Hf b) (hN : ∀ x ∈ N, 0 ≤ x ∧ x ≤ 87) (hA : ∀ i j, i < j → j < N.length → gI N i < gI N j) (hl : N.length ≤ 88) : chkS (sdL Lf Hf X b N) = 0 := by
  have ll := sdL_len Lf Hf X b N
  unfold chkS
  rw [if_neg (by omega), fstE_all _ 0 rfl]
  intro i _ hi
  have hi' : i < N.length := by omega
  have r := hN _ (gI_mem hi')
  have q := f.bd (gI N i).toNat (by omega)
  have s := shf_bd (X := X) (n := gI N i) f.b0
  unfold sErr
  rw [at3_sd hi']
  have w : within (sdg Lf Hf X b (gI N i)).1 0 87 = true ∧ within (sdg Lf Hf X b (gI N i)).2.1 1 20000000 = true ∧ within (sdg Lf Hf X b (gI N i)).2.2 1 20000000 = true := by
    unfold within
    refine ⟨by rw [decide_eq_true_eq]; show 0 ≤ gI N i ∧ gI N i ≤ 87; omega, ?_, ?_⟩
    · rw [decide_eq_true_eq]; show 1 ≤ (Lf (gI N i).toNat : Int) + shf X b (gI N i) ∧ (Lf (gI N i).toNat : Int) + shf X b (gI N i) ≤ 20000000; omega
    · rw [decide_eq_true_eq]; show 1 ≤ (Hf (gI N i).toNat : Int) + shf X b (gI N i) ∧ (Hf (gI N i).toNat : Int) + shf X b (gI N i) ≤ 20000000; omega
  rw [if_pos w, if_neg]
  rintro (z | ⟨z0, z⟩)
  · have : (Hf (gI N i).toNat : Int) + shf X b (gI N i) < (Lf (gI N i).toNat : Int) + shf X b (gI N i) := z
    omega
  · rw [at3_sd (by omega)] at z
    have z' : gI N i ≤ gI N (i - 1) := z
    have := hA (i - 1) i (by omega) hi'
    omega
theorem snd_sd {Lf Hf : Nat → Nat} {X b : Int} {N : List Int} {n : Int} (h : n ∈ N) : sndB (sdL Lf Hf X b N) n = true ∧ sndV (sdL Lf Hf X b N) n = ((Lf n.toNat : Int) + shf X b n, (Hf n.toNat : Int) + shf X b n) := by
  have ll := sdL_len Lf Hf X b N
  obtain ⟨a1, a2, a3, a4⟩ := fstI_spec (p := fun k => decide ((at3 (sdL Lf Hf X b N) k).1 = n)) (n := (sdL Lf Hf X b N).length) _ 0 rfl (by omega)
  have e : fstI (fun k => decide ((at3 (sdL Lf Hf X b N) k).1 = n)) (sdL Lf Hf X b N).length 0 = fndS (sdL Lf Hf X b N) n := rfl
  rw [e] at a1 a2 a3 a4
  obtain ⟨j, hj, ej⟩ := List.getElem_of_mem h
  have lt : fndS (sdL Lf Hf X b N) n < (sdL Lf Hf X b N).length := by
    rcases Nat.lt_or_ge (fndS (sdL Lf Hf X b N) n) (sdL Lf Hf X b N).length with z | z
    · exact z
    · have := a4 j (by omega) (by omega)
      rw [at3_sd hj, gI_eq hj, ej] at this
      simp [sdg] at this
  have f := a3 lt
  rw [decide_eq_true_eq, at3_sd (by omega)] at f
  have f' : gI N (fndS (sdL Lf Hf X b N) n) = n := f
  unfold sndB sndV
  refine ⟨decide_eq_true lt, ?_⟩
  rw [if_pos lt, at3_sd (by omega), f']; rfl
/-- Counts that are heard are good. -/
theorem heard_ok {Lf Hf : Nat → Nat} {X b : Int} {l : List P4} (O : TOk l) (f : FrOk Lf Hf b) : hErr (sdL Lf Hf X b (ntD l)) l = 0 := by
  have hN : ∀ x ∈ ntD l, 0 ≤ x ∧ x ≤ 87 := fun x hx => by
    rw [ntD_rn O] at hx
    obtain ⟨j, hj, rfl, _⟩ := (rn_mem 88).1 hx
    omega
  have dl : (ntD l).length ≤ 88 := by rw [ntD_rn O]; exact rn_len l 88
  have hA : ∀ i j, i < j → j < (ntD l).length → gI (ntD l) i < gI (ntD l) j := fun i j hij hj => by
    have this : (ntD l).Pairwise (· < ·) := (dd_asc (ntS_asc l) _ (Nat.le_refl _)).1
    rw [gI_eq (by omega), gI_eq hj]
    exact List.pairwise_iff_getElem.1 this i j (by omega) hj hij
  unfold hErr
  have ct : chkTs l = 0 := by
    unfold chkTs
    have := O.len
    rw [if_neg (by omega), fstE_all _ 0 rfl]
    intro i _ hi
    unfold tErr
    rw [if_pos (O.chk i hi), if_neg]
    rw [has4_iff]
    rintro ⟨k, hk, e⟩
    have hk' : k < i := by rw [List.length_take] at hk; omega
    rw [at4_take hk'] at e
    exact O.one i hi k hk' e
  rw [if_pos (chkS_sd f hN hA dl), if_pos ct, fstE_all _ 0 rfl]
  intro i _ hi
  have m1 : (at4 l i).1 ∈ ntD l := dd_mem _ (Nat.le_refl _) (by rw [List.take_length]; exact mem_ntS.2 ((mem_nts _).2 ⟨i, hi, .inl rfl⟩))
  have m2 : (at4 l i).2.1 ∈ ntD l := dd_mem _ (Nat.le_refl _) (by rw [List.take_length]; exact mem_ntS.2 ((mem_nts _).2 ⟨i, hi, .inr rfl⟩))
  unfold miss
  rw [if_pos ⟨(snd_sd m1).1, (snd_sd m2).1⟩]
theorem hrd_at {Lf Hf : Nat → Nat} {X b : Int} {l : List P4} {i : Nat} (hi : i < l.length) : at6 (hL (sdL Lf Hf X b (ntD l)) l l.length) i =
    (at4 l i, ((at4 l i).2.2.2 * ((Lf (at4 l i).2.1.toNat : Int) + shf X b (at4 l i).2.1) - (at4 l i).2.2.1 * ((Hf (at4 l i).1.toNat : Int) + shf X b (at4 l i).1),
      (at4 l i).2.2.2 * ((Hf (at4 l i).2.1.toNat : Int) + shf X b (at4 l i).2.1) - (at4 l i).2.2.1 * ((Lf (at4 l i).1.toNat : Int) + shf X b (at4 l i).1))) := by
  have m1 : (at4 l i).1 ∈ ntD l := dd_mem _ (Nat.le_refl _) (by rw [List.take_length]; exact mem_ntS.2 ((mem_nts _).2 ⟨i, hi, .inl rfl⟩))
  have m2 : (at4 l i).2.1 ∈ ntD l := dd_mem _ (Nat.le_refl _) (by rw [List.take_length]; exact mem_ntS.2 ((mem_nts _).2 ⟨i, hi, .inr rfl⟩))
  unfold at6 hL
  rw [List.getElem?_map, List.getElem?_range hi]
  simp only [Option.map_some, Option.getD_some, hrd, (snd_sd m1).2, (snd_sd m2).2]
theorem ts_heard {s : List P3} {l : List P4} : tsL (hL s l l.length) = l := by
  unfold tsL hL
  rw [List.map_map]
  apply List.ext_getElem
  · simp
  · intro i h1 h2
    simp only [List.getElem_map, List.getElem_range, Function.comp]
    show at4 l i = l[i]
    rw [at4_get]
end Z.U
end Go.Abs
/- Multiples of multiples. -/
namespace Go.Abs
namespace Z
set_option maxRecDepth 100000
set_option maxHeartbeats 0
theorem enc_mul {a b c : Int} {t p l h L H : Nat} (hp : 1 ≤ p) (s : EncS a b c 12 t l h) (S : EncS a b c 12 (t * p) L H) (hh : h ≤ 1000000000000000) (hH : H ≤ 1000000000000000) : l * p ≤ L ∧ H ≤ h * p := by
  have l1 := EncS.lt s
  have l2 := EncS.lt S
  have lift : ∀ n, encP a b c 12 t n → encP a b c 12 (t * p) (n * p) := fun n k => by
    unfold encP at *
    rw [Nat.mul_pow, Nat.mul_pow]
    calc n ^ (12 : Int).toNat * p ^ (12 : Int).toNat * numV (-a) (-b) (-c) 3 = n ^ (12 : Int).toNat * numV (-a) (-b) (-c) 3 * p ^ (12 : Int).toNat := by ac_rfl
      _ ≤ t ^ (12 : Int).toNat * numV a b c 3 * p ^ (12 : Int).toNat := Nat.mul_le_mul_right _ k
      _ = t ^ (12 : Int).toNat * p ^ (12 : Int).toNat * numV a b c 3 := by ac_rfl
  have pp : 0 < p ^ (12 : Int).toNat := Nat.pow_pos (by omega)
  have drop : ∀ n, encP a b c 12 (t * p) (n * p) → encP a b c 12 t n := fun n k => by
    unfold encP at *
    rw [Nat.mul_pow, Nat.mul_pow] at k
    refine Nat.le_of_mul_le_mul_right ?_ pp
    calc n ^ (12 : Int).toNat * numV (-a) (-b) (-c) 3 * p ^ (12 : Int).toNat = n ^ (12 : Int).toNat * p ^ (12 : Int).toNat * numV (-a) (-b) (-c) 3 := by ac_rfl
      _ ≤ t ^ (12 : Int).toNat * p ^ (12 : Int).toNat * numV a b c 3 := k
      _ = t ^ (12 : Int).toNat * numV a b c 3 * p ^ (12 : Int).toNat := by ac_rfl
  have q1 := (s.iff l s.le).2 (Nat.le_refl _)
  have q2 := (S.iff L S.le).2 (Nat.le_refl _)
  have low : l * p ≤ L := by
    rcases Nat.lt_or_ge L (l * p) with z | z
    · have := (S.iff (L + 1) (by omega)).1 (encP_mono z (lift l q1)); omega
    · exact z
  refine ⟨low, ?_⟩
  by_cases q : encQ a b c 12 t l
  · have e := s.on q
    have qq : encQ a b c 12 (t * p) (l * p) := by
      unfold encQ at *
      rw [Nat.mul_pow, Nat.mul_pow]
      calc l ^ (12 : Int).toNat * p ^ (12 : Int).toNat * numV (-a) (-b) (-c) 3 = l ^ (12 : Int).toNat * numV (-a) (-b) (-c) 3 * p ^ (12 : Int).toNat := by ac_rfl
        _ = t ^ (12 : Int).toNat * numV a b c 3 * p ^ (12 : Int).toNat := by rw [q]
        _ = t ^ (12 : Int).toNat * p ^ (12 : Int).toNat * numV a b c 3 := by ac_rfl
    have hL : L ≤ l * p := by
      unfold encP at q2
      unfold encQ at qq
      rw [← qq] at q2
      have := Nat.le_of_mul_le_mul_right q2 (numV_pos _ _ _)
      exact (Nat.pow_le_pow_iff_left (by decide)).1 this
    have eL : L = l * p := by omega
    rw [← eL] at qq
    rw [S.on qq, e]; omega
  · have e := s.off q
    have no : ¬ encP a b c 12 t (l + 1) := fun k => by have := (s.iff (l + 1) (by omega)).1 k; omega
    have : L < (l + 1) * p := by
      rcases Nat.lt_or_ge L ((l + 1) * p) with z | z
      · exact z
      · exact absurd (drop _ (encP_mono z q2)) no
    rw [e]; omega
end Z
end Go.Abs
/- The examples, behind three blocks. -/
namespace Go.Abs.Z
open Go Go.Abs
set_option maxRecDepth 1000000
set_option maxHeartbeats 0
end Go.Abs.Z
/- Chapter 7: tests: the law. -/
namespace Go.Abs
namespace Z.U
set_option maxRecDepth 100000
set_option maxHeartbeats 0
set_option linter.unusedSimpArgs false
abbrev v3p : Value := .slice (some ⟨0, 0, none⟩) 3 1
end Z.U
end Go.Abs
/- Which counts fail when one string is sharp. -/
namespace Go.Abs
namespace Z.U
set_option maxRecDepth 100000
set_option maxHeartbeats 0
/-- The range of a good test's beats, with what the frequencies of both notes allow. -/
theorem beat_of2 {C : List Value} {nm : ByteArray} {P S : Nat → Int} {F : Nat} {x : P4} {Lf Hf : Nat → Nat} (t : Tm C nm P S) (hs : nm.size ≤ 1000) (h0 : chkT nm P S = 0) (hF : 1 ≤ F ∧ F ≤ 1000000) (he : ∀ n, n ≤ 87 → encN P S F n (Lf n) (Hf n)) (hx : U.chkX x.1 x.2.1 x.2.2.1 x.2.2.2 = 0) :
    ∃ B : Int × Int, B.1 ≤ B.2 ∧ x.2.2.2 * (Lf x.2.1.toNat : Int) - x.2.2.1 * (Hf x.1.toNat : Int) ≤ B.1 ∧ B.2 ≤ x.2.2.2 * (Hf x.2.1.toNat : Int) - x.2.2.1 * (Lf x.1.toNat : Int) ∧
      ∀ (d lim : Nat) (hh : Heap), SlU hh v3p [2, 3, 5] → E.call (d + 8) lim 51 [.agg C.toArray, i64 F, vT x] hh = some (r3 (B.1, B.2, 0), hh) := by
  rw [chkX_eq] at hx
  obtain ⟨x1, x2, x3, x4⟩ := x
  replace hx : Z.chkX x1 x2 x3 x4 = 0 := hx
  obtain ⟨n', m', p', q', rfl, rfl, rfl, rfl, hn, hm, hp, hq, _, _⟩ := Z.chkX_0 hx
  obtain ⟨o, _⟩ := okt h0
  have b1 : F * p' ≤ 16000000 := Nat.le_trans (Nat.mul_le_mul hF.2 hp.2) (by omega)
  have b2 : F * q' ≤ 16000000 := Nat.le_trans (Nat.mul_le_mul hF.2 hq.2) (by omega)
  obtain ⟨L1, H1, s1⟩ := encS (intX P S 48 n').1 (intX P S 48 n').2.1 (intX P S 48 n').2.2 12 (by decide) (F * p')
  obtain ⟨L2, H2, s2⟩ := encS (intX P S 48 m').1 (intX P S 48 m').2.1 (intX P S 48 m').2.2 12 (by decide) (F * q')
  have t1 := he n' hn
  have t2 := he m' hm
  have n1 := enc_note o hn b1 s1
  have n2 := enc_note o hm b2 s2
  have u3 := enc_note o hn (by omega) t1
  have u4 := enc_note o hm (by omega) t2
  have r1 := (EncS.lt s1).1
  have r2 := (EncS.lt s2).1
  obtain ⟨m1, m2⟩ := enc_mul hp.1 t1 s1 u3 n1
  obtain ⟨m3, m4⟩ := enc_mul hq.1 t2 s2 u4 n2
  have w1 : Z.W ((L2 : Int) - H1) = (L2 : Int) - H1 := wrap_eq (by omega) (by omega)
  have w2 : Z.W ((H2 : Int) - L1) = (H2 : Int) - L1 := wrap_eq (by omega) (by omega)
  refine ⟨((L2 : Int) - H1, (H2 : Int) - L1), ?_, ?_, ?_, fun d lim hh sp => ?_⟩
  · show (L2 : Int) - H1 ≤ (H2 : Int) - L1
    omega
  · show (q' : Int) * (Lf ((m' : Int)).toNat : Int) - (p' : Int) * (Hf ((n' : Int)).toNat : Int) ≤ (L2 : Int) - H1
    rw [show ((m' : Int)).toNat = m' by omega, show ((n' : Int)).toNat = n' by omega, Int.mul_comm (q' : Int), Int.mul_comm (p' : Int), ← Int.natCast_mul, ← Int.natCast_mul]
    omega
  · show (H2 : Int) - L1 ≤ (q' : Int) * (Hf ((m' : Int)).toNat : Int) - (p' : Int) * (Lf ((n' : Int)).toNat : Int)
    rw [show ((m' : Int)).toNat = m' by omega, show ((n' : Int)).toNat = n' by omega, Int.mul_comm (q' : Int), Int.mul_comm (p' : Int), ← Int.natCast_mul, ← Int.natCast_mul]
    omega
  · have k := Z.c51 (d := d) (lim := lim) (h := hh) sp t hs h0 hx hn hm hF hp hq s1 s2
    rw [beaS_eq r1 r2 n1 n2, w1, w2] at k
    exact k
/-- Whether a count fails, in whole numbers. -/
theorem fail_num {p q l1 h1 l2 h2 B1 B2 s1 s2 b : Int} (hp : 1 ≤ p ∧ p ≤ 16) (hq : 1 ≤ q ∧ q ≤ 16) (e1 : h1 ≤ l1 + 1) (e2 : h2 ≤ l2 + 1) (g1 : l1 ≤ h1) (g2 : l2 ≤ h2) (hB : B1 ≤ B2) (a1 : q * l2 - p * h1 ≤ B1) (a2 : B2 ≤ q * h2 - p * l1)
    (hb : b = 0 ∨ 100 ≤ b) (hs : (s1 = 0 ∧ s2 = 0) ∨ (s1 = b ∧ s2 = 0) ∨ (s1 = 0 ∧ s2 = b)) :
    (B2 < q * (l2 + s2) - p * (h1 + s1) ∨ q * (h2 + s2) - p * (l1 + s1) < B1) ↔ (b ≠ 0 ∧ (s1 ≠ 0 ∨ s2 ≠ 0)) := by
  have x1 : q * h2 ≤ q * l2 + q := by
    have := Int.mul_le_mul_of_nonneg_left e2 (show 0 ≤ q by omega)
    rw [Int.mul_add, Int.mul_one] at this; exact this
  have x2 : p * h1 ≤ p * l1 + p := by
    have := Int.mul_le_mul_of_nonneg_left e1 (show 0 ≤ p by omega)
    rw [Int.mul_add, Int.mul_one] at this; exact this
  have x3 : p * l1 ≤ p * h1 := Int.mul_le_mul_of_nonneg_left g1 (by omega)
  have x4 : q * l2 ≤ q * h2 := Int.mul_le_mul_of_nonneg_left g2 (by omega)
  rw [Int.mul_add, Int.mul_add, Int.mul_add, Int.mul_add]
  rcases hb with rfl | hb
  · have z1 : s1 = 0 := by omega
    have z2 : s2 = 0 := by omega
    subst z1 z2
    simp only [Int.mul_zero, Int.add_zero]
    omega
  · have y1 : p * 100 ≤ p * b := Int.mul_le_mul_of_nonneg_left hb (by omega)
    have y2 : q * 100 ≤ q * b := Int.mul_le_mul_of_nonneg_left hb (by omega)
    rcases hs with ⟨rfl, rfl⟩ | ⟨rfl, rfl⟩ | ⟨rfl, rfl⟩
    · simp only [Int.mul_zero, Int.add_zero]; omega
    · simp only [Int.mul_zero, Int.add_zero]; omega
    · simp only [Int.mul_zero, Int.add_zero]; omega
theorem rng_ok {p q A B c D : Int} (hp : 1 ≤ p ∧ p ≤ 16) (hq : 1 ≤ q ∧ q ≤ 16) (a1 : 1 ≤ A) (a2 : A ≤ B) (a3 : B ≤ 20000000) (a4 : 1 ≤ c) (a5 : c ≤ D) (a6 : D ≤ 20000000) :
    within (q * c - p * B) (-1000000000) 1000000000 = true ∧ within (q * D - p * A) (-1000000000) 1000000000 = true ∧ q * c - p * B ≤ q * D - p * A := by
  have m : ∀ {x v : Int}, 1 ≤ x ∧ x ≤ 16 → 1 ≤ v → v ≤ 20000000 → 0 ≤ x * v ∧ x * v ≤ 320000000 := fun {x v} hx h1 h2 => by
    have u1 : 0 ≤ x * v := Int.mul_nonneg (by omega) (by omega)
    have u2 : x * v ≤ x * 20000000 := Int.mul_le_mul_of_nonneg_left h2 (by omega)
    omega
  have y1 := m hq a4 (by omega)
  have y2 := m hq (v := D) (by omega) a6
  have y3 := m hp a1 (by omega)
  have y4 := m hp (v := B) (by omega) a3
  have z1 : q * c ≤ q * D := Int.mul_le_mul_of_nonneg_left a5 (by omega)
  have z2 : p * A ≤ p * B := Int.mul_le_mul_of_nonneg_left a2 (by omega)
  unfold within
  rw [decide_eq_true_eq, decide_eq_true_eq]
  omega
/-- Counts that are heard are good counts, and those that fail are those of the string that is sharp. -/
theorem chkN_heard {Lf Hf : Nat → Nat} {X b : Int} {l : List P4} (O : TOk l) (f : FrOk Lf Hf b) : chkN (hL (sdL Lf Hf X b (ntD l)) l l.length) = 0 := by
  have hl := hL_len (sdL Lf Hf X b (ntD l)) l l.length
  have ol := O.len
  unfold chkN
  rw [if_neg (by omega), fstE_all _ 0 rfl]
  intro i _ hi
  rw [hl] at hi
  have hx := O.chk i hi
  obtain ⟨c1, c2, c3, c4, c5⟩ := U.chkX_0 hx
  have q1 := f.bd (at4 l i).1.toNat (by omega)
  have q2 := f.bd (at4 l i).2.1.toNat (by omega)
  have s1 := shf_bd (X := X) (n := (at4 l i).1) f.b0
  have s2 := shf_bd (X := X) (n := (at4 l i).2.1) f.b0
  unfold ctErr
  rw [hrd_at hi, ts_heard]
  simp only
  rw [if_pos hx, if_neg]
  · unfold rErr
    simp only
    have rng := fun (p q A B c D : Int) (hp : 1 ≤ p ∧ p ≤ 16) (hq : 1 ≤ q ∧ q ≤ 16) (a1 : 1 ≤ A) (a2 : A ≤ B) (a3 : B ≤ 20000000) (a4 : 1 ≤ c) (a5 : c ≤ D) (a6 : D ≤ 20000000) => rng_ok hp hq a1 a2 a3 a4 a5 a6
    obtain ⟨w1, w2, w3⟩ := rng (at4 l i).2.2.1 (at4 l i).2.2.2 ((Lf (at4 l i).1.toNat : Int) + shf X b (at4 l i).1) ((Hf (at4 l i).1.toNat : Int) + shf X b (at4 l i).1) ((Lf (at4 l i).2.1.toNat : Int) + shf X b (at4 l i).2.1) ((Hf (at4 l i).2.1.toNat : Int) + shf X b (at4 l i).2.1) c3 c4 (by omega) (by omega) (by omega) (by omega) (by omega) (by omega)
    rw [if_pos ⟨w1, w2⟩, if_neg (by omega)]
  · rw [has4_iff]
    rintro ⟨k, hk, e⟩
    have hk' : k < i := by rw [List.length_take] at hk; omega
    rw [at4_take hk'] at e
    exact O.one i hi k hk' e
theorem fail_iff {Lf Hf : Nat → Nat} {X b : Int} {l : List P4} {bt : Nat → Int × Int} {i : Nat} (O : TOk l) (f : FrOk Lf Hf b) (hb : b = 0 ∨ 100 ≤ b) (hi : i < l.length)
    (h : (bt i).1 ≤ (bt i).2 ∧ (at4 l i).2.2.2 * (Lf (at4 l i).2.1.toNat : Int) - (at4 l i).2.2.1 * (Hf (at4 l i).1.toNat : Int) ≤ (bt i).1 ∧ (bt i).2 ≤ (at4 l i).2.2.2 * (Hf (at4 l i).2.1.toNat : Int) - (at4 l i).2.2.1 * (Lf (at4 l i).1.toNat : Int)) :
    failB bt (hL (sdL Lf Hf X b (ntD l)) l l.length) i = (decide (b ≠ 0) && isIn (at4 l i) X) := by
  obtain ⟨c1, c2, c3, c4, c5⟩ := U.chkX_0 (O.chk i hi)
  have q1 := f.bd (at4 l i).1.toNat (by omega)
  have q2 := f.bd (at4 l i).2.1.toNat (by omega)
  have key := fail_num (p := (at4 l i).2.2.1) (q := (at4 l i).2.2.2) (l1 := (Lf (at4 l i).1.toNat : Int)) (h1 := (Hf (at4 l i).1.toNat : Int)) (l2 := (Lf (at4 l i).2.1.toNat : Int)) (h2 := (Hf (at4 l i).2.1.toNat : Int)) (s1 := shf X b (at4 l i).1) (s2 := shf X b (at4 l i).2.1) (b := b)
    c3 c4 (by omega) (by omega) (by omega) (by omega) h.1 h.2.1 h.2.2 hb (by unfold shf; split <;> split <;> omega)
  unfold failB
  rw [hrd_at hi]
  simp only
  rw [Bool.eq_iff_iff, Bool.or_eq_true, decide_eq_true_eq, decide_eq_true_eq, Bool.and_eq_true, decide_eq_true_eq, key]
  unfold isIn shf
  rw [Bool.or_eq_true, decide_eq_true_eq, decide_eq_true_eq]
  constructor
  · rintro ⟨h1, h2⟩
    refine ⟨h1, ?_⟩
    rcases h2 with h2 | h2
    · left
      by_cases z : (at4 l i).1 = X
      · exact z
      · rw [if_neg z] at h2; exact absurd rfl h2
    · right
      by_cases z : (at4 l i).2.1 = X
      · exact z
      · rw [if_neg z] at h2; exact absurd rfl h2
  · rintro ⟨h1, h2⟩
    refine ⟨h1, ?_⟩
    rcases h2 with h2 | h2
    · left; rw [if_pos h2]; exact h1
    · right; rw [if_pos h2]; exact h1
/-- The tests that fail are those of the string that is sharp. -/
theorem fdL_eq {bt : Nat → Int × Int} {L : List P6} {l : List P4} {X : Int} {c : Bool} : ∀ k, (∀ i, i < k → failB bt L i = (c && isIn (at4 l i) X)) → fdL bt L k = if c = true then sg l X k else []
  | 0, _ => by
    split <;> rfl
  | k + 1, h => by
    have ih := fdL_eq k fun i hi => h i (by omega)
    unfold fdL
    rw [h k (by omega), ih]
    cases c
    · simp
    · simp only [Bool.true_and, if_true]
      rfl
end Z.U
end Go.Abs
