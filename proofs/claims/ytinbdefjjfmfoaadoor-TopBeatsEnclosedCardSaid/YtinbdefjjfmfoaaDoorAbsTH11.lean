/- The law TopBeatsEnclosed. -/
import Derived.Test.YtinbdefjjfmfoaaDoorAbsTH7
import Derived.Test.YtinbdefjjfmfoaaDoorAbsTH9
import Derived.Test.YtinbdefjjfmfoaaDoorAbsTEN
set_option linter.unusedSimpArgs false
set_option linter.unusedVariables false
namespace Go.Abs
namespace T
set_option maxRecDepth 100000
set_option maxHeartbeats 0
theorem EncS.exact {a b c e : Int} {t L : Nat} (l : L ≤ 1000000000000000) (p : encQ a b c e t L) (q : ¬ encP a b c e t (L + 1)) : EncS a b c e t L L :=
  ⟨by omega, fun n _ => ⟨fun k => by
    by_cases h : n ≤ L
    · exact h
    · exact absurd (encP_mono (by omega) k) q, fun k => encP_mono k (Nat.le_of_eq p)⟩, fun _ => rfl, fun k => absurd p k⟩
def TuOk (h : Heap) : Prop := ∀ (lim : Nat) (L : List (Option Blk)), E.call 20 lim 70 [] (h.freeze ++ L) = some (.bool true, h.freeze ++ L)
theorem encT : EncS (-1) 1 0 1 220000 330000 330000 := EncS.exact (by decide) (by decide +kernel) (by decide +kernel)
theorem encT2 : encN (PF tpP) (PF tsP) 440000 43 330000 330000 := by
  unfold encN
  exact EncS.exact (by decide) (by decide +kernel) (by decide +kernel)
theorem intT : intV nmP (PF tpP) (PF tsP) 36 43 = (pt (-1) 1 0 1, 0) := by
  have e := intV_ok (lo := 36) (hi := 43) chk_P (by decide) (by decide)
  simp only [Int.cast_ofNat_Int] at e
  have k : pit (intX (PF tpP) (PF tsP) 36 43) = pt (-1) 1 0 1 := by kernel_rfl
  rw [e, k]
theorem tuned {d lim : Nat} {h : Heap} (sp : SlU h (.slice (some ⟨0, 0, none⟩) 3 1) [2, 3, 5]) : E.call (d + 8) lim 70 [] h = some (.bool true, h) := by
  have sp2 : ∀ L, SlU (h.freeze ++ L) (.slice (some ⟨0, 0, none⟩) 3 1) [2, 3, 5] := fun L => (Sl_freeze.2 sp).app L
  have tm := tmC_tm (nm := nmP) (p := tpP) (s := tsP) rfl rfl
  have k57 := fun lim hh => c57P (d := d + 5) (lim := lim) (h := hh)
  have k22 := fun lim hh => c22 (d := d + 1) (lim := lim) (h := hh) (lo := 36) (hi := 43) tm (by decide)
  rw [intT] at k22
  have k82 := fun lim L => c82 (d := d + 2) (lim := lim) (sp2 L) (a := -1) (b := 1) (c := 0) (e := 1) (by decide) (by decide) encT
  have hv : smallL 330000 330000 = 330000 ∧ smallH 330000 330000 = 330000 ∧ smallE 330000 330000 = 0 := by decide
  rw [show ((330000 : Nat) : Int) = 330000 from rfl, hv.1, hv.2.1, hv.2.2] at k82
  have k31 := fun lim L => c31 (d := d) (lim := lim) (F := 440000) (n := 43) (sp2 L) tm (by decide) chk_P (by decide) (by decide) encT2
  simp only [Int.cast_ofNat_Int] at k82 k31
  simp only [tmC, tpP, tsP, z12, nmP] at k57 k22 k31
  refine call1 fn70 rfl (by simp [ef70]) ?_
  simp at k57 k22 k31
  simp [ef70, k57, k22, k82, k31]
theorem tuOk (bs : List (Option Blk)) : TuOk ([primesB] ++ bs) := fun _ L => tuned (d := 12) ((Sl_freeze.2 (sp0 bs)).app L)
theorem wr {n : Int} (h : -1000000000000000000 ≤ n ∧ n ≤ 1000000000000000000) : IntKind.wrap .i64 n = n := wrapL (by omega) (by omega)
theorem law15 (lim : Nat) {h : Heap} (A : TuOk h) (sp : SlU h (.slice (some ⟨0, 0, none⟩) 3 1) [2, 3, 5]) {C : List Value} {nm : ByteArray} {P S : Nat → Int} {F n m p q : Int} (t : Tm C nm P S) :
    E.call 21 lim 15 [.agg C.toArray, i64 F, pt n m p q] h = some (.bool true, h) := by
  have a1 := A
  unfold TuOk at a1
  have k20 := fun lim hh => c20 (d := 19) (lim := lim) (h := hh) t
  have sp2 : ∀ L, SlU (h.freeze ++ L) (.slice (some ⟨0, 0, none⟩) 3 1) [2, 3, 5] := fun L => (Sl_freeze.2 sp).app L
  have k35 := fun lim hh => c35 (d := 18) (lim := lim) (h := hh) (n := n) (m := m) (p := p) (q := q)
  refine call1 fn15 rfl (by simp [ef15]) ?_
  by_cases hs : nm.size ≤ 30
  · have k51 := fun lim hh => c51 (d := 16) (lim := lim) (h := hh) t (by omega)
    by_cases h0 : chkT nm P S = 0
    · by_cases hf : isFork F = true
      · by_cases hX : chkX n m p q = 0
        · obtain ⟨n, m, p, q, rfl, rfl, rfl, rfl, hn, hm, hp, hq, fp, fq⟩ := chkX_0 hX
          obtain ⟨F, rfl, hF⟩ := fork_nat hf
          obtain ⟨o, _⟩ := okt h0
          have b1 : F * p ≤ 16000000 := Nat.le_trans (Nat.mul_le_mul hF.2 hp.2) (by omega)
          have b2 : F * q ≤ 16000000 := Nat.le_trans (Nat.mul_le_mul hF.2 hq.2) (by omega)
          obtain ⟨L1, H1, s1⟩ := encS (intX P S 48 n).1 (intX P S 48 n).2.1 (intX P S 48 n).2.2 12 (by decide) (F * p)
          obtain ⟨L2, H2, s2⟩ := encS (intX P S 48 m).1 (intX P S 48 m).2.1 (intX P S 48 m).2.2 12 (by decide) (F * q)
          obtain ⟨l1, h1, t1⟩ := encS (intX P S 48 n).1 (intX P S 48 n).2.1 (intX P S 48 n).2.2 12 (by decide) F
          obtain ⟨l2, h2, t2⟩ := encS (intX P S 48 m).1 (intX P S 48 m).2.1 (intX P S 48 m).2.2 12 (by decide) F
          obtain ⟨l3, h3, t3⟩ := encS (intX P S 48 n).1 (intX P S 48 n).2.1 (intX P S 48 n).2.2 12 (by decide) (F * 2)
          have k28 := fun lim L => c28 (d := 12) (lim := lim) (sp2 L) t (by omega) h0 hX hn hm hF hp hq s1 s2
          have r1 := EncS.lt s1
          have r2 := EncS.lt s2
          have u1 := enc_note o hn b1 s1
          have u2 := enc_note o hm b2 s2
          have u3 := enc_note o hn (by omega) t1
          have u4 := enc_note o hm (by omega) t2
          have u5 := enc_note o hn (by omega) t3
          rw [beaS_eq r1.1 r2.1 u1 u2] at k28
          have k31 := fun lim L => c31 (d := 13) (lim := lim) (sp2 L) t (by omega) h0 hn hF t1
          have k31' := fun lim L => c31 (d := 13) (lim := lim) (sp2 L) t (by omega) h0 hm hF t2
          obtain ⟨m1, m2⟩ := enc_mul hp.1 t1 s1 u3 u1
          obtain ⟨m3, m4⟩ := enc_mul hq.1 t2 s2 u4 u2
          obtain ⟨m5, m6⟩ := enc_mul (by omega) t1 t3 u3 u5
          have q1 := EncS.lt t1
          have q2 := EncS.lt t2
          have v1 : l1 * p ≤ 16000000000000000 := Nat.le_trans (Nat.mul_le_mul (show l1 ≤ 1000000000000000 by omega) hp.2) (by omega)
          have v2 : h1 * p ≤ 16000000000000000 := Nat.le_trans (Nat.mul_le_mul (show h1 ≤ 1000000000000000 by omega) hp.2) (by omega)
          have v3 : l2 * q ≤ 16000000000000000 := Nat.le_trans (Nat.mul_le_mul (show l2 ≤ 1000000000000000 by omega) hq.2) (by omega)
          have v4 : h2 * q ≤ 16000000000000000 := Nat.le_trans (Nat.mul_le_mul (show h2 ≤ 1000000000000000 by omega) hq.2) (by omega)
          have e1 : (p : Int) * (l1 : Int) = ((l1 * p : Nat) : Int) := by rw [Int.natCast_mul, Int.mul_comm]
          have e2 : (p : Int) * (h1 : Int) = ((h1 * p : Nat) : Int) := by rw [Int.natCast_mul, Int.mul_comm]
          have e3 : (q : Int) * (l2 : Int) = ((l2 * q : Nat) : Int) := by rw [Int.natCast_mul, Int.mul_comm]
          have e4 : (q : Int) * (h2 : Int) = ((h2 * q : Nat) : Int) := by rw [Int.natCast_mul, Int.mul_comm]
          have w1 : W ((L2 : Int) - H1) = (L2 : Int) - H1 := wr (by omega)
          have w2 : W ((H2 : Int) - L1) = (H2 : Int) - L1 := wr (by omega)
          rw [w1, w2] at k28
          generalize l1 * p = A1 at *
          generalize h1 * p = A2 at *
          generalize l2 * q = A3 at *
          generalize h2 * q = A4 at *
          have x1 : IntKind.wrap .i64 (A1 : Int) = A1 := wr (by omega)
          have x2 : IntKind.wrap .i64 (A2 : Int) = A2 := wr (by omega)
          have x3 : IntKind.wrap .i64 (A3 : Int) = A3 := wr (by omega)
          have x4 : IntKind.wrap .i64 (A4 : Int) = A4 := wr (by omega)
          have x5 : IntKind.wrap .i64 ((A3 : Int) - A2) = A3 - A2 := wr (by omega)
          have x6 : IntKind.wrap .i64 ((A4 : Int) - A1) = A4 - A1 := wr (by omega)
          have y1 : ¬ ((L2 : Int) - H1 < A3 - A2) := by omega
          have y2 : ¬ ((A4 : Int) - A1 < H2 - L1) := by omega
          have z1 : IntKind.wrap .i64 (2 * (l1 : Int)) = ((l1 * 2 : Nat) : Int) := by rw [wr (by omega)]; omega
          have z2 : IntKind.wrap .i64 (2 * (h1 : Int)) = ((h1 * 2 : Nat) : Int) := by rw [wr (by omega)]; omega
          have z3 : ((l1 * 2 : Nat) : Int) ≤ l3 := by omega
          have z4 : (h3 : Int) ≤ ((h1 * 2 : Nat) : Int) := by omega
          have w12 : IntKind.wrap .i64 ((n : Int) + 12) = ((n + 12 : Nat) : Int) := by rw [wr (by omega)]; rfl
          generalize (L2 : Int) - H1 = B3 at *
          generalize (H2 : Int) - L1 = B4 at *
          by_cases hM : n + 12 ≤ 87
          · have hw := isNote_mk hM
            have t4 : encN P S F (n + 12) l3 h3 := enc_oct o hM t3
            have k31'' := fun lim L => c31 (d := 13) (lim := lim) (sp2 L) t (by omega) h0 hM hF t4
            clear t4 m5 m6 u5
            generalize n + 12 = M at *
            generalize l1 * 2 = G1 at *
            generalize h1 * 2 = G2 at *
            simp [ef15, a1, k20, hs, t.len, t.take, k51, h0, c33, hf, k35, hX, k28, k31, k31', e1, e2, e3, e4, x1, x2, x3, x4, x5, x6, y1, y2, c24, w12, hw, k31'', z1, z2, z3, z4]
          · have hw : isNote ((n + 12 : Nat) : Int) = false := by
              simp [isNote, within]; omega
            generalize n + 12 = M at *
            simp [ef15, a1, k20, hs, t.len, t.take, k51, h0, c33, hf, k35, hX, k28, k31, k31', e1, e2, e3, e4, x1, x2, x3, x4, x5, x6, y1, y2, c24, w12, hw]
        · simp [ef15, a1, k20, hs, t.len, t.take, k51, h0, c33, hf, k35, hX]
      · simp only [Bool.not_eq_true] at hf
        simp [ef15, a1, k20, hs, t.len, t.take, k51, h0, c33, hf]
    · simp [ef15, a1, k20, hs, t.len, t.take, k51, h0]
  · simp [ef15, a1, k20, hs, t.len, t.take]
theorem topBeatsEnclosed_law : ∀ (bs : List (Option Blk)) us, Heap.freeze ([primesB] ++ bs) = [primesB] ++ bs → (∀ n, ctBlocks (([ctT, (false, [ctI]), (true, [ctI, ctI, ctI, ctI])] : List (Bool × List CT)).flatMap (·.2)) = some n → bs.length = n) →
    ArgsV 6 ([primesB] ++ bs) [ctT, (false, [ctI]), (true, [ctI, ctI, ctI, ctI])] us → ∃ h', E.call 21 (([primesB] : Heap) ++ bs).length 15 us ([primesB] ++ bs) = some (.bool true, h') := by
  intro bs us _ k a
  obtain ⟨u, v, w, rfl, a1, a2, a3⟩ := args3 a
  obtain ⟨C, nm, P, S, rfl, t, _⟩ := arg_tm a1
  obtain ⟨_, rfl, _⟩ := arg_int a2
  obtain ⟨_, _, _, _, rfl, _⟩ := arg_agg4 a3
  exact ⟨_, law15 _ (tuOk bs) (sp0 bs) t⟩
end T
end Go.Abs
