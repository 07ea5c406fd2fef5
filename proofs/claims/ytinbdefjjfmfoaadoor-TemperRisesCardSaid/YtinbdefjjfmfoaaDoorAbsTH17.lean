/- The law TemperRises. -/
import Derived.Test.YtinbdefjjfmfoaaDoorAbsTH16
import Derived.Test.YtinbdefjjfmfoaaDoorAbsTyped
import Derived.Test.YtinbdefjjfmfoaaDoorAbsTH8
set_option linter.unusedSimpArgs false
set_option linter.unusedVariables false
namespace Go.Abs
namespace T
set_option maxRecDepth 100000
set_option maxHeartbeats 0
theorem arg_tests {d : Nat} {h : Heap} {u : Value} (t : Typ (d + 1) h (.sl [ctI, ctI, ctI, ctI]) u) : ∃ l : List X4, SlX h u l ∧ l.length ≤ maxLen := by
  obtain ⟨l, s, hl, _⟩ := typ_slG (k := 4) (by decide) encX (fun g => (g 0, g 1, g 2, g 3)) (fun _ => rfl) (fun g j hj => by
    have : j = 0 ∨ j = 1 ∨ j = 2 ∨ j = 3 := by omega
    rcases this with rfl | rfl | rfl | rfl <;> rfl) t
  exact ⟨l, s, hl⟩
theorem beats_ex {P S : Nat → Int} (o : Okt P S) {F : Nat} (hF : 1 ≤ F ∧ F ≤ 1000000) (l : List X4) :
    ∃ lo hi : Nat → Int, ∀ i, i < l.length → chkO (atX l i) = 0 → (∀ (d lim : Nat) (h : Heap) (b : Nat) (rw : Bool), SlU h (.slice (some ⟨0, 0, none⟩) 3 1) [2, 3, 5] → h.get b = some ⟨circK P S, rw⟩ →
      E.call (d + 7) lim 94 [.pointer (some ⟨b, 0, none⟩), i64 F, xV (atX l i)] h = some (r3 (lo i, hi i, 0), h)) ∧ ∀ (C : List Value) (nm : ByteArray), Tm C nm P S → ∀ (d lim : Nat) (h : Heap), E.call (d + 7) lim 30 [.agg C.toArray, i64 F, xV (atX l i)] h = some (rg (lo i) (hi i), h) := by
  have key : ∀ i, ∃ r : Int × Int, i < l.length → chkO (atX l i) = 0 → (∀ (d lim : Nat) (h : Heap) (b : Nat) (rw : Bool), SlU h (.slice (some ⟨0, 0, none⟩) 3 1) [2, 3, 5] → h.get b = some ⟨circK P S, rw⟩ →
      E.call (d + 7) lim 94 [.pointer (some ⟨b, 0, none⟩), i64 F, xV (atX l i)] h = some (r3 (r.1, r.2, 0), h)) ∧
      ∀ (C : List Value) (nm : ByteArray), Tm C nm P S → ∀ (d lim : Nat) (h : Heap), E.call (d + 7) lim 30 [.agg C.toArray, i64 F, xV (atX l i)] h = some (rg r.1 r.2, h) := fun i => by
    by_cases hX : chkO (atX l i) = 0
    · unfold chkO at hX
      obtain ⟨n, m, p, q, e1, e2, e3, e4, hn, hm, hp, hq, fp, fq⟩ := chkX_0 hX
      have b1 : F * p ≤ 16000000 := Nat.le_trans (Nat.mul_le_mul hF.2 hp.2) (by omega)
      have b2 : F * q ≤ 16000000 := Nat.le_trans (Nat.mul_le_mul hF.2 hq.2) (by omega)
      obtain ⟨L1, H1, s1⟩ := encS (intX P S 48 n).1 (intX P S 48 n).2.1 (intX P S 48 n).2.2 12 (by decide) (F * p)
      obtain ⟨L2, H2, s2⟩ := encS (intX P S 48 m).1 (intX P S 48 m).2.1 (intX P S 48 m).2.2 12 (by decide) (F * q)
      have hx : xV (atX l i) = pt n m p q := by simp only [xV, e1, e2, e3, e4]
      refine ⟨(W ((L2 : Int) - H1), W ((H2 : Int) - L1)), fun _ _ => ⟨fun d lim h b rw' sp hb => ?_, fun C nm t d lim h => ?_⟩⟩
      · have := c94 (d := d) (lim := lim) sp hb o hn hm hF hp hq s1 s2
        rw [beaS_eq (EncS.lt s1).1 (EncS.lt s2).1 (enc_note o hn b1 s1) (enc_note o hm b2 s2)] at this
        rw [hx]; exact this
      · rw [hx]; exact c30 t o hn hm hF hp hq s1 s2
    · exact ⟨(0, 0), fun _ q => absurd q hX⟩
  obtain ⟨f, hf⟩ := Classical.axiomOfChoice key
  exact ⟨fun i => (f i).1, fun i => (f i).2, fun i hi hX => hf i hi hX⟩
theorem plain_one_all {l : List Value} (h : l.all plainV = true) : l.all Value.oneCell' = true := by
  rw [List.all_eq_true] at h ⊢
  exact fun x hx => plain_one (h x hx)
/-- What has been gathered so far. -/
def outV (n m : Nat) : Value := if m = 0 then .slice none 0 0 else .slice (some ⟨n + 2, 0, none⟩) m 2
def outB (lo hi : Nat → Int) (m : Nat) : List (Option Blk) := if m = 0 then [] else [some ⟨sclI lo hi m, true⟩]
theorem law8 (lim : Nat) {h : Heap} (A : AwOk h) (sp : SlU h (.slice (some ⟨0, 0, none⟩) 3 1) [2, 3, 5]) {C : List Value} {nm : ByteArray} {P S : Nat → Int} {F : Int} {v : Value} {l : List X4} (t : Tm C nm P S) (s : SlX h v l) (hm : l.length ≤ maxLen) :
    E.call 21 lim 8 [.agg C.toArray, .agg #[i64 F, v]] h = some (.bool true, h) := by
  have a1 := A
  unfold AwOk at a1
  have k20 := fun lim hh => c20 (d := 19) (lim := lim) (h := hh) t
  have k23 := fun lim hh => c23 (d := 15) (lim := lim) (h := hh) t
  have sp2 : ∀ L, SlU (h.freeze ++ L) (.slice (some ⟨0, 0, none⟩) 3 1) [2, 3, 5] := fun L => (Sl_freeze.2 sp).app L
  have r := s.rules2
  refine call1 fn8 rfl (by simp [ef8]) ?_
  by_cases hs : nm.size ≤ 30
  · by_cases hl : l.length ≤ 6 ∨ (100 < l.length ∧ l.length ≤ 103)
    · rcases Nat.eq_zero_or_pos l.length with hz | hz
      · have e : l = [] := List.eq_nil_of_length_eq_zero hz
        subst e
        have gw : Heap.get (h.freeze ++ [some ⟨C, true⟩, some ⟨[i64 F, v], true⟩, some ⟨[], true⟩]) (h.length + 2) = some ⟨[], true⟩ := by rw [hget_base (by simp)]; rfl
        have sw : SlX _ (.slice (some ⟨h.length + 2, 0, none⟩) 0 4) [] := SlX_own (l := []) (n := 0) gw rfl
        have e1 : chkL [] 0 = 0 := chkL_ge (by simp)
        have e2 : riseB (fun _ => 0) (fun _ => 0) 0 = true := rfl
        have k50 := fun lim hh => c50 (d := 18) (lim := lim) (h := hh) (v := .slice none 0 0) (lo := fun _ => 0) (hi := fun _ => 0) (n := 0) ⟨rfl, rfl, fun z => absurd rfl z, .inl rfl, fun k hk => absurd hk (by omega)⟩ (by omega)
        rw [e2] at k50
        have sl0 : v = .slice none 0 0 ∨ ∃ b o t, v = .slice (some ⟨b, o, none⟩) 0 t ∧ b < h.length := by
          rcases s.low with e | ⟨b, o, m, t', e, hb⟩
          · exact .inl e
          · have := s.len
            rw [e] at this
            simp at this
            rw [this] at e
            exact .inr ⟨b, o, t', e, hb⟩
        simp at r
        by_cases h0 : chkT nm P S = 0
        · by_cases hf : isFork F = true
          · obtain ⟨F, rfl, hF⟩ := fork_nat hf
            have sp3 := sp2 [some ⟨C, true⟩, some ⟨[i64 F, v], true⟩, some ⟨[], true⟩]
            have k49 := fun lim => c49 (d := 12) (lim := lim) (lo := fun _ => 0) (hi := fun _ => 0) sp3 t (by omega) sw h0 hf (by simp) (fun _ i hi => absurd hi (by simp))
            simp [e1, e2] at k49
            rcases sl0 with rfl | ⟨b, o', t', rfl, hb'⟩
            · simp [ef8, a1, k20, hs, t.len, t.take, E.append, E.added, KOp_eq, k49, k23, h0, c33, hf, wpC_unroll, wpI_step, E_fuel, St.tidy, t.plain, k50]
            · simp [ef8, a1, k20, hs, t.len, t.take, E.append, E.added, KOp_eq, k49, k23, h0, c33, hf, wpC_unroll, wpI_step, E_fuel, St.tidy, t.plain, k50, hb']
          · simp only [Bool.not_eq_true] at hf
            have k49 := fun lim => c49b (d := 14) (lim := lim) t (by omega) sw h0 hf
            simp at k49
            rcases sl0 with rfl | ⟨b, o', t', rfl, hb'⟩
            · simp [ef8, a1, k20, hs, t.len, t.take, E.append, E.added, KOp_eq, k49, k23, h0, c33, hf, wpC_unroll, wpI_step, E_fuel, St.tidy, t.plain, k50]
            · simp [ef8, a1, k20, hs, t.len, t.take, E.append, E.added, KOp_eq, k49, k23, h0, c33, hf, wpC_unroll, wpI_step, E_fuel, St.tidy, t.plain, k50, hb']
        · have k49 := fun lim => c49a (d := 14) (lim := lim) (F := F) t (by omega) sw h0
          simp at k49
          rcases sl0 with rfl | ⟨b, o', t', rfl, hb'⟩
          · simp [ef8, a1, k20, hs, t.len, t.take, E.append, E.added, KOp_eq, k49, k23, h0, wpC_unroll, wpI_step, E_fuel, St.tidy, t.plain, k50]
          · simp [ef8, a1, k20, hs, t.len, t.take, E.append, E.added, KOp_eq, k49, k23, h0, wpC_unroll, wpI_step, E_fuel, St.tidy, t.plain, k50, hb']
      · obtain ⟨b, o', kc, rfl, G, g1, g2, hb'⟩ := s.blkF (by omega) (by decide)
        have one := plain_one_all (cX_plain l)
        have m1 : l.length * 32 ≤ 140737488355328 := by omega
        have gw : Heap.get (h.freeze ++ [some ⟨C, true⟩, some ⟨[i64 F, .slice (some ⟨b, o', none⟩) l.length 4], true⟩, none, some ⟨cX l, true⟩]) (h.length + 3) = some ⟨cX l, true⟩ := by rw [hget_base (by simp)]; rfl
        have sw : SlX _ (.slice (some ⟨h.length + 3, 0, none⟩) l.length 4) l := SlX_own gw rfl
        have nz : l.length ≠ 0 := by omega
        have hp' : (0 : Int) < l.length := by omega
        simp only [slB_some, slO_some] at r
        by_cases h0 : chkT nm P S = 0
        · by_cases hf : isFork F = true
          · obtain ⟨F, rfl, hF⟩ := fork_nat hf
            obtain ⟨o, _⟩ := okt h0
            have sp3 := sp2 [some ⟨C, true⟩, some ⟨[i64 F, .slice (some ⟨b, o', none⟩) l.length 4], true⟩, none, some ⟨cX l, true⟩]
            rcases hl with hl | ⟨hl, hl'⟩
            · obtain ⟨lo, hi, hB⟩ := beats_ex o hF l
              have k49 := fun lim => c49 (d := 12) (lim := lim) (lo := lo) (hi := hi) sp3 t (by omega) sw h0 hf (by omega) (fun hc i hi => (hB i hi (chkL_all _ 0 rfl hc i (by omega) hi)).1)
              have e1 : (l.length : Int) ≤ 6 := by omega
              have e2 : (l.length : Int) ≤ 100 := by omega
              have e3 : (l.length : Int) ≤ 103 := by omega
              simp at k49
              simp [ef8, a1, k20, hs, t.len, t.take, E.append, E.added, KOp_eq, k49, k23, h0, c33, hf, e1, e2, e3, Int.not_lt.2 e1, Int.not_lt.2 e2, Int.not_lt.2 e3, nz, G, g1, g2, one, m1, hm, hb']
              refine wpC_loop (fun q st => ∃ (i m : Nat) (dd : Int), q = l.length - i ∧ i ≤ l.length ∧ ((dd = 0 ∧ chkL l i = chkL l 0 ∧ m = i) ∨ (dd ≠ 0 ∧ dd = chkL l 0)) ∧
                st = ⟨[(2, .pointer (some ⟨h.length, 0, none⟩)), (3, .pointer (some ⟨h.length + 1, 0, none⟩)), (5, .bool (decide (chkL l 0 = 0) && riseB lo hi l.length)), (6, i64 (chkL l 0)), (7, i64 dd), (8, outV h.length m), (9, i64 i)],
                  h.freeze ++ ([some ⟨C, true⟩, some ⟨[i64 F, .slice (some ⟨b, o', none⟩) l.length 4], true⟩] ++ outB lo hi m)⟩) l.length (by show l.length < 2 ^ 64; omega) ?_ ?_
              · simp [St.tidy, t.plain, hb']
                exact ⟨0, by omega, by omega, 0, 0, .inl ⟨rfl, rfl, rfl⟩, ⟨rfl, rfl, rfl⟩, rfl⟩
              · rintro q hq _ ⟨i, m, dd, rfl, hi', hst, rfl⟩
                rcases hst with ⟨rfl, hc, rfl⟩ | ⟨hd, rfl⟩
                · by_cases hlt : m < l.length
                  · have h4 : (m : Int) < l.length := by omega
                    have w1' := w1 (i := m) (by omega)
                    simp only [W] at w1'
                    have k36 := fun lim hh => c36 (d := 17) (lim := lim) (h := hh) (n := (atX l m).1) (m := (atX l m).2.1) (p := (atX l m).2.2.1) (q := (atX l m).2.2.2)
                    have eo : chkX (atX l m).1 (atX l m).2.1 (atX l m).2.2.1 (atX l m).2.2.2 = chkO (atX l m) := rfl
                    rw [eo] at k36
                    have k2 : m * 4 + 4 ≤ l.length * 4 := by omega
                    have p1 := cX_part hlt
                    have bl := sclI_len lo hi m
                    have bp := sclI_plain lo hi m
                    have bp' := sclI_plain lo hi (m + 1)
                    have hsn : sclI lo hi m ++ [i64 (lo m), i64 (hi m)] = sclI lo hi (m + 1) := rfl
                    rw [chkL_lt hlt] at hc
                    by_cases q0 : chkO (atX l m) = 0
                    · rw [if_pos q0] at hc
                      have k30 := fun lim hh => (hB m hlt q0).2 C nm t 13 lim hh
                      rcases Nat.eq_zero_or_pos m with z | z
                      · subst z
                        have r0 := r.2.2.2.2.2.1 0 4 (by omega) (by decide)
                        simp at p1 r0
                        simp [outV, outB, h4, r, r0, k2, p1, k36, q0, k30, t.len, t.take, t.plain, hb', E.append, E.added, Value.oneCell', maxLen, St.tidy, Nat.add_assoc, hp', hz]
                        exact ⟨⟨l.length - 1, by omega, 1, rfl, by omega, 1, 0, .inl ⟨rfl, hc, rfl⟩, ⟨rfl, by simp, rfl⟩, by simp [sclI]⟩, fun e => absurd hz (by rw [e]; simp)⟩
                      · have z0 : m ≠ 0 := by omega
                        simp [outV, outB, h4, r, k2, p1, k36, q0, k30, t.len, t.take, t.plain, hb', z0, bl, hsn, bp', E.append, E.added, Value.oneCell', maxLen, St.tidy, Nat.add_assoc, w1', hlt, Nat.not_le.2 hlt]
                        exact ⟨⟨by omega, by omega⟩, l.length - (m + 1), by omega, m + 1, rfl, by omega, m + 1, 0, .inl ⟨rfl, hc, rfl⟩, ⟨rfl, by simp, rfl⟩, by simp⟩
                    · rw [if_neg q0] at hc
                      rcases Nat.eq_zero_or_pos m with z | z
                      · subst z
                        have r0 := r.2.2.2.2.2.1 0 4 (by omega) (by decide)
                        simp at p1 r0
                        simp [outV, outB, h4, r, r0, k2, p1, k36, q0, t.plain, hb', St.tidy, hp', hz]
                        exact ⟨⟨l.length - 1, by omega, 1, rfl, by omega, 0, chkO (atX l 0), .inr ⟨q0, hc⟩, ⟨rfl, rfl, rfl⟩, rfl⟩, fun e => absurd hz (by rw [e]; simp)⟩
                      · have z0 : m ≠ 0 := by omega
                        simp [outV, outB, h4, r, k2, p1, k36, q0, t.plain, hb', z0, bp, St.tidy, w1', hlt, Nat.not_le.2 hlt]
                        exact ⟨l.length - (m + 1), by omega, m + 1, rfl, by omega, m, chkO (atX l m), .inr ⟨q0, hc⟩, ⟨rfl, by simp [z0], rfl⟩, by simp [z0]⟩
                  · obtain rfl : m = l.length := by omega
                    have hc0 : chkL l 0 = 0 := by rw [← hc]; exact chkL_ge (by omega)
                    have z0 : l.length ≠ 0 := by omega
                    have gs : ∀ L, Heap.get (h.freeze ++ (some ⟨C, true⟩ :: some ⟨[i64 F, .slice (some ⟨b, o', none⟩) l.length 4], true⟩ :: some ⟨sclI lo hi l.length, true⟩ :: L)) (h.length + 2) = some ⟨sclI lo hi l.length, true⟩ := fun L => by rw [hget_base (by simp)]; rfl
                    have k50 := fun lim L => c50 (d := 18) (lim := lim) (SlR_own (gs L)) (by omega)
                    simp [outV, outB, z0, hb', hc0, k50]
                · by_cases hlt : i < l.length
                  · have h4 : (i : Int) < l.length := by omega
                    simp [h4, hd, hb']
                  · have h4 : ¬ (i : Int) < l.length := by omega
                    simp [h4, hd, hb']
            · have k49 := fun lim => c49c (d := 14) (lim := lim) t (by omega) sw h0 hf hl
              have e1 : (6 : Int) < l.length := by omega
              have e2 : (100 : Int) < l.length := by omega
              have e3 : (l.length : Int) ≤ 103 := by omega
              simp at k49
              simp [ef8, a1, k20, hs, t.len, t.take, E.append, E.added, KOp_eq, k49, k23, h0, c33, hf, e1, e2, e3, Int.not_le.2 e1, Int.not_le.2 e2, Int.not_lt.2 e3, nz, G, g1, g2, one, m1, hm, hb', wpC_unroll, wpI_step, E_fuel, St.tidy, t.plain, hp']
          · simp only [Bool.not_eq_true] at hf
            have k49 := fun lim => c49b (d := 14) (lim := lim) t (by omega) sw h0 hf
            simp at k49
            rcases hl with hl | ⟨hl, hl'⟩
            · have e1 : (l.length : Int) ≤ 6 := by omega
              have e2 : (l.length : Int) ≤ 100 := by omega
              have e3 : (l.length : Int) ≤ 103 := by omega
              simp [ef8, a1, k20, hs, t.len, t.take, E.append, E.added, KOp_eq, k49, k23, h0, c33, hf, e1, e2, e3, Int.not_lt.2 e1, Int.not_lt.2 e2, Int.not_lt.2 e3, nz, G, g1, g2, one, m1, hm, hb', wpC_unroll, wpI_step, E_fuel, St.tidy, t.plain, hp']
            · have e1 : (6 : Int) < l.length := by omega
              have e2 : (100 : Int) < l.length := by omega
              have e3 : (l.length : Int) ≤ 103 := by omega
              simp [ef8, a1, k20, hs, t.len, t.take, E.append, E.added, KOp_eq, k49, k23, h0, c33, hf, e1, e2, e3, Int.not_le.2 e1, Int.not_le.2 e2, Int.not_lt.2 e3, nz, G, g1, g2, one, m1, hm, hb', wpC_unroll, wpI_step, E_fuel, St.tidy, t.plain, hp']
        · have k49 := fun lim => c49a (d := 14) (lim := lim) (F := F) t (by omega) sw h0
          simp at k49
          rcases hl with hl | ⟨hl, hl'⟩
          · have e1 : (l.length : Int) ≤ 6 := by omega
            have e2 : (l.length : Int) ≤ 100 := by omega
            have e3 : (l.length : Int) ≤ 103 := by omega
            simp [ef8, a1, k20, hs, t.len, t.take, E.append, E.added, KOp_eq, k49, k23, h0, e1, e2, e3, Int.not_lt.2 e1, Int.not_lt.2 e2, Int.not_lt.2 e3, nz, G, g1, g2, one, m1, hm, hb', wpC_unroll, wpI_step, E_fuel, St.tidy, t.plain, hp']
          · have e1 : (6 : Int) < l.length := by omega
            have e2 : (100 : Int) < l.length := by omega
            have e3 : (l.length : Int) ≤ 103 := by omega
            simp [ef8, a1, k20, hs, t.len, t.take, E.append, E.added, KOp_eq, k49, k23, h0, e1, e2, e3, Int.not_le.2 e1, Int.not_le.2 e2, Int.not_lt.2 e3, nz, G, g1, g2, one, m1, hm, hb', wpC_unroll, wpI_step, E_fuel, St.tidy, t.plain, hp']
    · have e1 : (6 : Int) < l.length := by omega
      by_cases q : l.length ≤ 100
      · have e2 : (l.length : Int) ≤ 100 := by omega
        simp [ef8, a1, k20, hs, t.len, t.take, r, e1, e2, Int.not_le.2 e1, Int.not_lt.2 e2]
      · have e2 : (100 : Int) < l.length := by omega
        have e3 : (103 : Int) < l.length := by omega
        simp [ef8, a1, k20, hs, t.len, t.take, r, e1, e2, e3, Int.not_le.2 e1, Int.not_le.2 e2, Int.not_le.2 e3]
  · simp [ef8, a1, k20, hs, t.len, t.take]
theorem temperRises_law : ∀ (bs : List (Option Blk)) us, Heap.freeze ([primesB] ++ bs) = [primesB] ++ bs → (∀ n, ctBlocks (([ctT, (true, [ctI, .sl [ctI, ctI, ctI, ctI]])] : List (Bool × List CT)).flatMap (·.2)) = some n → bs.length = n) →
    ArgsV 6 ([primesB] ++ bs) [ctT, (true, [ctI, .sl [ctI, ctI, ctI, ctI]])] us → ∃ h', E.call 21 (([primesB] : Heap) ++ bs).length 8 us ([primesB] ++ bs) = some (.bool true, h') := by
  intro bs us _ k a
  obtain ⟨u, v, rfl, a1, a2⟩ := args2 a
  obtain ⟨C, nm, P, S, rfl, t, _⟩ := arg_tm a1
  obtain ⟨us, rfl, hl, t2⟩ := a2
  match us, hl with
  | [u0, u1], _ =>
    obtain ⟨F, rfl, _⟩ := typ_int (t2 0 _ _ rfl rfl)
    obtain ⟨l, s, hl⟩ := arg_tests (d := 5) (t2 1 _ _ rfl rfl)
    exact ⟨_, law8 _ (awOk bs) (sp0 bs) t s hl⟩
end T
end Go.Abs
