/- The law TemperPurity. -/
import Derived.Test.YtinbdefjjfmfoaaDoorAbsTHM
set_option linter.unusedSimpArgs false
set_option linter.unusedVariables false
namespace Go.Abs
namespace T
set_option maxRecDepth 100000
set_option maxHeartbeats 0
theorem SlBo_nil {h : Heap} : SlBo h (.slice none 0 0) [] := ⟨rfl, rfl, fun z => absurd rfl z, .inl rfl, fun k hk => absurd hk (by simp)⟩
/-- The order of a test's interval. -/
def purO (P S : Nat → Int) (n m p q : Nat) : Int := ordE ((intX P S n m).1 - ((facX p).1 - (facX q).1)) ((intX P S n m).2.1 - ((facX p).2.1 - (facX q).2.1)) ((intX P S n m).2.2 - ((facX p).2.2 - (facX q).2.2))
theorem pur_b {P S : Nat → Int} (o : Okt P S) {n m p q F L1 H1 L2 H2 : Nat} (hn : n ≤ 87) (hm : m ≤ 87) (hp : 1 ≤ p ∧ p ≤ 16) (hq : 1 ≤ q ∧ q ≤ 16) (fp : facB p = true) (fq : facB q = true)
    (s1 : encN P S (F * p) n L1 H1) (s2 : encN P S (F * q) m L2 H2) : (0 ≤ purO P S n m p q → L1 ≤ L2) ∧ (purO P S n m p q ≤ 0 → L2 ≤ L1) := by
  have e := int_sum o (a := 48) (b := n) (c := m) (by omega) hn hm
  have e1 : (intX P S 48 m).1 = (intX P S 48 n).1 + (intX P S n m).1 := by rw [e]; simp [addZ]
  have e2 : (intX P S 48 m).2.1 = (intX P S 48 n).2.1 + (intX P S n m).2.1 := by rw [e]; simp [addZ]
  have e3 : (intX P S 48 m).2.2 = (intX P S 48 n).2.2 + (intX P S n m).2.2 := by rw [e]; simp [addZ]
  obtain ⟨a1, a2⟩ := fac_num hp fp
  obtain ⟨b1, b2⟩ := fac_num hq fq
  have k1 := fun n' => (enc_lift (a := (intX P S 48 n).1) (b := (intX P S 48 n).2.1) (c := (intX P S 48 n).2.2) a1 a2 F n').1
  have k2 := fun n' => (enc_lift (a := (intX P S 48 m).1) (b := (intX P S 48 m).2.1) (c := (intX P S 48 m).2.2) b1 b2 F n').1
  unfold encN at s1 s2
  have i1 := (s1.iff L1 s1.le).2 (Nat.le_refl _)
  have i2 := (s2.iff L2 s2.le).2 (Nat.le_refl _)
  constructor
  · intro h
    refine (s2.iff L1 s1.le).1 ((k2 L1).2 (enc_ord ?_ ((k1 L1).1 i1)))
    unfold purO at h
    have : ∀ {a b c a' b' c' : Int}, 0 ≤ ordE a b c → a = a' → b = b' → c = c' → 0 ≤ ordE a' b' c' := fun h x y z => by rw [← x, ← y, ← z]; exact h
    exact this h (by omega) (by omega) (by omega)
  · intro h
    refine (s1.iff L2 s2.le).1 ((k1 L2).2 (enc_ord ?_ ((k2 L2).1 i2)))
    unfold purO at h
    have : ∀ {a b c a' b' c' : Int}, ordE a b c ≤ 0 → a' = -a → b' = -b → c' = -c → 0 ≤ ordE a' b' c' := fun h x y z => by rw [x, y, z, ordE_neg]; omega
    exact this h (by omega) (by omega) (by omega)
def errP (nm : ByteArray) (P S : Nat → Int) (n m p q : Int) : Int := if chkT nm P S ≠ 0 then chkT nm P S else chkX n m p q
theorem c55e {d lim : Nat} {h : Heap} {C : List Value} {nm : ByteArray} {P S : Nat → Int} {n m p q : Int} (t : Tm C nm P S) (hs : nm.size ≤ 1000) (he : errP nm P S n m p q ≠ 0) :
    E.call (d + 6) lim 55 [.agg C.toArray, pt n m p q] h = some (.tuple #[i64 0, i64 (errP nm P S n m p q)], h) := by
  refine call1 fn55 rfl (by simp [ef55]) ?_
  by_cases h0 : chkT nm P S = 0
  · have e : errP nm P S n m p q = chkX n m p q := by simp [errP, h0]
    rw [e] at he ⊢
    have k84 := fun lim L => c84 (d := d) (lim := lim) (h := L) t hs SlBo_nil (by simp) h0 (by simp)
    have k35 := fun lim hh => c35 (d := d + 3) (lim := lim) (h := hh) (n := n) (m := m) (p := p) (q := q)
    simp [ef55, t.len, t.take, k84, k35, he]
  · have e : errP nm P S n m p q = chkT nm P S := by simp [errP, h0]
    rw [e]
    have k84 := fun lim hh v => c84b (d := d) (lim := lim) (h := hh) (v := v) t hs h0
    simp [ef55, t.len, t.take, k84, h0]
theorem fac_sub {p q : Nat} (hp : 1 ≤ p ∧ p ≤ 16) (hq : 1 ≤ q ∧ q ≤ 16) : plusX (facX p) (-1) (facX q) = addZ (facX p) (-1) (facX q) ∧ B3 (addZ (facX p) (-1) (facX q)) 48 := by
  have a := fac_b hp
  have b := fac_b hq
  have ha : B3 (facX p) 48 := ⟨⟨by omega, by omega⟩, ⟨by omega, by omega⟩, ⟨by omega, by omega⟩⟩
  have hb : B3 (facX q) 48 := ⟨⟨by omega, by omega⟩, ⟨by omega, by omega⟩, ⟨by omega, by omega⟩⟩
  refine ⟨(plusX_eq (n := -1) (N := 1) ha hb (by omega) (by omega) (by omega)).1, ?_⟩
  unfold addZ B3
  simp only
  omega
theorem c55 {d lim : Nat} {h : Heap} {C : List Value} {nm : ByteArray} {P S : Nat → Int} {n m p q : Nat} (sp : SlU h (.slice (some ⟨0, 0, none⟩) 3 1) [2, 3, 5]) (t : Tm C nm P S) (hs : nm.size ≤ 1000) (h0 : chkT nm P S = 0) (hX : chkX n m p q = 0)
    (hn : n ≤ 87) (hm : m ≤ 87) (hp : 1 ≤ p ∧ p ≤ 16) (hq : 1 ≤ q ∧ q ≤ 16) :
    E.call (d + 8) lim 55 [.agg C.toArray, pt n m p q] h = some (.tuple #[i64 (purO P S n m p q), i64 0], h) := by
  obtain ⟨o, _⟩ := okt h0
  have sp2 : ∀ L, SlU (h.freeze ++ L) (.slice (some ⟨0, 0, none⟩) 3 1) [2, 3, 5] := fun L => (Sl_freeze.2 sp).app L
  have k84 := fun lim L => c84 (d := d + 2) (lim := lim) (h := L) t hs SlBo_nil (by simp) h0 (by simp)
  have k35 := fun lim hh => c35 (d := d + 5) (lim := lim) (h := hh) (n := n) (m := m) (p := p) (q := q)
  have k98 := fun lim hh => @c98 (d + 6) lim hh p hp
  have k98' := fun lim hh => @c98 (d + 6) lim hh q hq
  have k122 := fun lim hh => @c122 (d + 6) lim hh (facX p) (facX q) (-1)
  obtain ⟨f1, f2⟩ := fac_sub hp hq
  rw [f1] at k122
  have i1 := (int_ok o hn hm).1
  have i2 : isP (addZ (facX p) (-1) (facX q)) = true := by
    obtain ⟨b1, b2, b3⟩ := f2
    exact (isP_mk (by omega) (by omega) (by omega)).1
  have k121 := fun lim L => c121 (d := d) (lim := lim) (sp2 L) i1 i2
  have e : ordE ((intX P S n m).1 - (addZ (facX p) (-1) (facX q)).1) ((intX P S n m).2.1 - (addZ (facX p) (-1) (facX q)).2.1) ((intX P S n m).2.2 - (addZ (facX p) (-1) (facX q)).2.2) = purO P S n m p q := by
    unfold purO addZ; congr 1 <;> simp only <;> omega
  rw [e] at k121
  generalize purO P S n m p q = O at *
  have gk : ∀ L, Heap.get (Heap.freeze (h.freeze ++ (some ⟨C, true⟩ :: some ⟨[i64 n, i64 m, i64 p, i64 q], true⟩ :: some ⟨circK P S, true⟩ :: L))) (h.length + 2) = some ⟨circK P S, false⟩ := fun L => hget_freeze (k := ⟨circK P S, true⟩) (by rw [hget_base (by simp)]; rfl)
  have k86 := fun lim L => c86 (d := d + 4) (lim := lim) (gk L) (lo := n) (hi := m) (by omega) (by omega)
  generalize addZ (facX p) (-1) (facX q) = Y at *
  generalize facX p = X1 at *
  generalize facX q = X2 at *
  generalize intX P S n m = I at *
  obtain ⟨x1, x2, x3⟩ := X1
  obtain ⟨x1', x2', x3'⟩ := X2
  obtain ⟨y1, y2, y3⟩ := Y
  obtain ⟨j1, j2, j3⟩ := I
  refine call1 fn55 rfl (by simp [ef55]) ?_
  simp [ef55, t.len, t.take, k84, k35, hX, k98, k98', k122, k121, k86]
theorem c56 {d lim : Nat} {h : Heap} {C : List Value} {nm : ByteArray} {P S : Nat → Int} {n m p q : Nat} (t : Tm C nm P S) (o : Okt P S)
    (hn : n ≤ 87) (hm : m ≤ 87) (hp : 1 ≤ p ∧ p ≤ 16) (hq : 1 ≤ q ∧ q ≤ 16) :
    E.call (d + 6) lim 56 [.agg C.toArray, pt n m p q] h = some (i64 (purO P S n m p q), h) := by
  have k99 := fun lim hh => @c99 (d + 4) lim hh p hp
  have k99' := fun lim hh => @c99 (d + 4) lim hh q hq
  have k27 := fun lim hh => c27 (d := d) (lim := lim) (h := hh) (lo := n) (hi := m) t (by omega) (by omega)
  have k91 := fun lim hh => @c91 (d + 4) lim hh (intX P S n m) (facX q) 1
  have a := fac_b hp
  have b := fac_b hq
  have hb : B3 (facX q) 48 := ⟨⟨by omega, by omega⟩, ⟨by omega, by omega⟩, ⟨by omega, by omega⟩⟩
  have hb' : B3 (facX p) 48 := ⟨⟨by omega, by omega⟩, ⟨by omega, by omega⟩, ⟨by omega, by omega⟩⟩
  obtain ⟨g1, g2⟩ := plusX_eq (n := 1) (N := 1) (isP_B3 (int_ok o hn hm).1) hb (by omega) (by omega) (by omega)
  obtain ⟨g3, g4⟩ := plusX_eq (n := -1) (N := 1) g2 hb' (by omega) (by omega) (by omega)
  rw [g1] at k91
  have k123 := fun lim hh => c123 (d := d) (lim := lim) (h := hh) (g4.mono (by omega)) g3
  have e : ordE ((addZ (intX P S n m) 1 (facX q)).1 - (facX p).1) ((addZ (intX P S n m) 1 (facX q)).2.1 - (facX p).2.1) ((addZ (intX P S n m) 1 (facX q)).2.2 - (facX p).2.2) = purO P S n m p q := by
    unfold purO addZ; congr 1 <;> simp only <;> omega
  rw [e] at k123
  generalize purO P S n m p q = O at *
  generalize addZ (intX P S n m) 1 (facX q) = Y at *
  generalize facX p = X1 at *
  generalize facX q = X2 at *
  generalize intX P S n m = I at *
  obtain ⟨x1, x2, x3⟩ := X1
  obtain ⟨x1', x2', x3'⟩ := X2
  obtain ⟨y1, y2, y3⟩ := Y
  obtain ⟨j1, j2, j3⟩ := I
  refine call1 fn56 rfl (by simp [ef56]) ?_
  simp [ef56, t.len, t.take, k99, k99', k27, k91, k123]
theorem law10 (lim : Nat) {h : Heap} (A : AwOk h) (sp : SlU h (.slice (some ⟨0, 0, none⟩) 3 1) [2, 3, 5]) {C : List Value} {nm : ByteArray} {P S : Nat → Int} {F n m p q : Int} (t : Tm C nm P S) :
    E.call 21 lim 10 [.agg C.toArray, i64 F, pt n m p q] h = some (.bool true, h) := by
  have a1 := A
  unfold AwOk at a1
  have k20 := fun lim hh => c20 (d := 19) (lim := lim) (h := hh) t
  have k23 := fun lim hh => c23 (d := 15) (lim := lim) (h := hh) t
  have sp2 : ∀ L, SlU (h.freeze ++ L) (.slice (some ⟨0, 0, none⟩) 3 1) [2, 3, 5] := fun L => (Sl_freeze.2 sp).app L
  have k36 := fun lim hh => c36 (d := 17) (lim := lim) (h := hh) (n := n) (m := m) (p := p) (q := q)
  refine call1 fn10 rfl (by simp [ef10]) ?_
  by_cases hs : nm.size ≤ 30
  · by_cases he : errP nm P S n m p q = 0
    · have he' := he
      unfold errP at he'
      split at he'
      · omega
      · rename_i h0
        simp only [ne_eq, Decidable.not_not] at h0
        have hX := he'
        obtain ⟨n, m, p, q, rfl, rfl, rfl, rfl, hn, hm, hp, hq, fp, fq⟩ := chkX_0 hX
        obtain ⟨o, _⟩ := okt h0
        have k55 := fun lim Q => c55 (d := 12) (lim := lim) (sp2 Q) t (by omega) h0 hX hn hm hp hq
        have k56 := fun lim hh => c56 (d := 14) (lim := lim) (h := hh) t o hn hm hp hq
        by_cases hf : isFork F = true
        · obtain ⟨F, rfl, hF⟩ := fork_nat hf
          have b1 : F * p ≤ 16000000 := Nat.le_trans (Nat.mul_le_mul hF.2 hp.2) (by omega)
          have b2 : F * q ≤ 16000000 := Nat.le_trans (Nat.mul_le_mul hF.2 hq.2) (by omega)
          obtain ⟨L1, H1, s1⟩ := encS (intX P S 48 n).1 (intX P S 48 n).2.1 (intX P S 48 n).2.2 12 (by decide) (F * p)
          obtain ⟨L2, H2, s2⟩ := encS (intX P S 48 m).1 (intX P S 48 m).2.1 (intX P S 48 m).2.2 12 (by decide) (F * q)
          have k28 := fun lim L => c28 (d := 12) (lim := lim) (sp2 L) t (by omega) h0 hX hn hm hF hp hq s1 s2
          have l1 := EncS.lt s1
          have l2 := EncS.lt s2
          have u1 := enc_note o hn b1 s1
          have u2 := enc_note o hm b2 s2
          rw [beaS_eq l1.1 l2.1 u1 u2] at k28
          obtain ⟨z1, z2⟩ := pur_b o hn hm hp hq fp fq s1 s2
          have w1 : W ((L2 : Int) - H1) = (L2 : Int) - H1 := wrapL (by omega) (by omega)
          have w2 : W ((H2 : Int) - L1) = (H2 : Int) - L1 := wrapL (by omega) (by omega)
          have w3 : IntKind.wrap .i64 ((H2 : Int) - L1 - (L2 - H1)) = (H2 : Int) - L1 - (L2 - H1) := wrapL (by omega) (by omega)
          rw [w1, w2] at k28
          generalize purO P S n m p q = O at *
          have f1 : (L2 : Int) - H1 ≤ H2 - L1 := by omega
          have f2 : IntKind.wrap .i64 ((H2 : Int) - L1 - (L2 - H1)) ≤ 2 := by rw [w3]; omega
          have f3 : ¬ O < 0 → 0 ≤ (H2 : Int) - L1 := fun q => by have := z1 (by omega); omega
          have f4 : ¬ 0 < O → (L2 : Int) - H1 ≤ 0 := fun q => by have := z2 (by omega); omega
          generalize (H2 : Int) - L1 = Y at *
          generalize (L2 : Int) - H1 = X at *
          by_cases q1 : O < 0
          · by_cases q2 : 0 < O
            · omega
            · simp [ef10, a1, k20, hs, t.len, t.take, k55, k56, k23, h0, k36, hX, c33, hf, k28, f1, f2, q1, q2, f4 q2]
          · by_cases q2 : 0 < O
            · simp [ef10, a1, k20, hs, t.len, t.take, k55, k56, k23, h0, k36, hX, c33, hf, k28, f1, f2, q1, q2, f3 q1]
            · simp [ef10, a1, k20, hs, t.len, t.take, k55, k56, k23, h0, k36, hX, c33, hf, k28, f1, f2, q1, q2, f3 q1, f4 q2]
        · simp only [Bool.not_eq_true] at hf
          simp [ef10, a1, k20, hs, t.len, t.take, k55, k56, k23, h0, k36, hX, c33, hf]
    · have k55 := fun lim hh => c55e (d := 14) (lim := lim) (h := hh) t (by omega) he
      by_cases h0 : chkT nm P S = 0
      · have e : errP nm P S n m p q = chkX n m p q := by simp [errP, h0]
        rw [e] at k55 he
        simp [ef10, a1, k20, hs, t.len, t.take, k55, k23, h0, k36, he]
      · have e : errP nm P S n m p q = chkT nm P S := by simp [errP, h0]
        rw [e] at k55
        simp [ef10, a1, k20, hs, t.len, t.take, k55, k23, h0, k36]
  · simp [ef10, a1, k20, hs, t.len, t.take]
theorem temperPurity_law : ∀ (bs : List (Option Blk)) us, Heap.freeze ([primesB] ++ bs) = [primesB] ++ bs → (∀ n, ctBlocks (([ctT, (false, [ctI]), (true, [ctI, ctI, ctI, ctI])] : List (Bool × List CT)).flatMap (·.2)) = some n → bs.length = n) →
    ArgsV 6 ([primesB] ++ bs) [ctT, (false, [ctI]), (true, [ctI, ctI, ctI, ctI])] us → ∃ h', E.call 21 (([primesB] : Heap) ++ bs).length 10 us ([primesB] ++ bs) = some (.bool true, h') := by
  intro bs us _ k a
  obtain ⟨u, v, w, rfl, a1, a2, a3⟩ := args3 a
  obtain ⟨C, nm, P, S, rfl, t, _⟩ := arg_tm a1
  obtain ⟨_, rfl, _⟩ := arg_int a2
  obtain ⟨_, _, _, _, rfl, _⟩ := arg_agg4 a3
  exact ⟨_, law10 _ (awOk bs) (sp0 bs) t⟩
end T
end Go.Abs
