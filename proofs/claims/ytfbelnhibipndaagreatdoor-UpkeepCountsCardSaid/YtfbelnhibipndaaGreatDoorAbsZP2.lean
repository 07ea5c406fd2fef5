/- Chapter 7: tests: the law. -/
import Derived.Test.YtfbelnhibipndaaGreatDoorAbsZP1
import Derived.Test.YtfbelnhibipndaaGreatDoorAbsZT
import Derived.Test.YtfbelnhibipndaaGreatDoorAbsZUKM
set_option linter.unusedSimpArgs false
set_option linter.unusedVariables false
namespace Go.Abs
namespace Z.U
set_option maxRecDepth 100000
set_option maxHeartbeats 0
set_option linter.unusedSimpArgs false
abbrev v3p : Value := .slice (some ⟨0, 0, none⟩) 3 1
/-- The range of a good test's beats, by both. -/
theorem beat_of {C : List Value} {nm : ByteArray} {P S : Nat → Int} {F : Int} {x : P4} (t : Tm C nm P S) (hs : nm.size ≤ 1000) (hu : tuE nm P S F = 0) (hx : U.chkX x.1 x.2.1 x.2.2.1 x.2.2.2 = 0) :
    ∃ B : Int × Int, B.1 ≤ B.2 ∧ ∀ (d lim : Nat) (hh : Heap), SlU hh v3p [2, 3, 5] → E.call (d + 8) lim 51 [.agg C.toArray, i64 F, vT x] hh = some (r3 (B.1, B.2, 0), hh) ∧ E.call (d + 7) lim 53 [.agg C.toArray, i64 F, vT x] hh = some (rg B.1 B.2, hh) := by
  have h0 : chkT nm P S = 0 := by
    unfold tuE at hu
    by_cases z : chkT nm P S = 0
    · exact z
    · rw [if_neg z] at hu; exact hu
  have hf : isFork F = true := by
    unfold tuE at hu
    rw [if_pos h0] at hu
    by_cases z : isFork F = true
    · exact z
    · rw [if_neg z] at hu; cases hu
  rw [chkX_eq] at hx
  obtain ⟨x1, x2, x3, x4⟩ := x
  replace hx : Z.chkX x1 x2 x3 x4 = 0 := hx
  obtain ⟨F', rfl, hF⟩ := fork_nat hf
  obtain ⟨n', m', p', q', rfl, rfl, rfl, rfl, hn, hm, hp, hq, _, _⟩ := Z.chkX_0 hx
  obtain ⟨o, _⟩ := okt h0
  have b1 : F' * p' ≤ 16000000 := Nat.le_trans (Nat.mul_le_mul hF.2 hp.2) (by omega)
  have b2 : F' * q' ≤ 16000000 := Nat.le_trans (Nat.mul_le_mul hF.2 hq.2) (by omega)
  obtain ⟨L1, H1, s1⟩ := encS (intX P S 48 n').1 (intX P S 48 n').2.1 (intX P S 48 n').2.2 12 (by decide) (F' * p')
  obtain ⟨L2, H2, s2⟩ := encS (intX P S 48 m').1 (intX P S 48 m').2.1 (intX P S 48 m').2.2 12 (by decide) (F' * q')
  have n1 := enc_note o hn b1 s1
  have n2 := enc_note o hm b2 s2
  have m1 := (EncS.lt s1).1
  have m2 := (EncS.lt s2).1
  refine ⟨(W ((L2 : Int) - H1), W ((H2 : Int) - L1)), ?_, fun d lim hh sp => ⟨?_, ?_⟩⟩
  · show W ((L2 : Int) - H1) ≤ W ((H2 : Int) - L1)
    unfold W
    rw [wrap_eq (by omega) (by omega), wrap_eq (by omega) (by omega)]
    omega
  · have k := Z.c51 (d := d) (lim := lim) (h := hh) sp t hs h0 hx hn hm hF hp hq s1 s2
    rw [beaS_eq (EncS.lt s1).1 (EncS.lt s2).1 (enc_note o hn b1 s1) (enc_note o hm b2 s2)] at k
    exact k
  · exact Z.c53 (d := d) (lim := lim) (h := hh) t o hn hm hF hp hq s1 s2
end Z.U
end Go.Abs
