/- Nothing fails: no suspects. No tests at all. -/
import Derived.Test.YtfbelnhibipndaaGreatDoorAbsZWN
import Derived.Test.YtfbelnhibipndaaGreatDoorAbsZUOP
import Derived.Test.YtfbelnhibipndaaGreatDoorAbsZUNM
set_option linter.unusedSimpArgs false
set_option linter.unusedVariables false
/- Nothing fails: no suspects. No tests at all. -/
namespace Go.Abs
namespace Z.U
set_option maxRecDepth 100000
set_option maxHeartbeats 0
set_option linter.unusedSimpArgs false
theorem TOk.nil : TOk [] := ⟨by decide, fun i hi => absurd hi (Nat.not_lt_zero _), fun i hi => absurd hi (Nat.not_lt_zero _)⟩
theorem nil3 {h : Heap} : Sl3 h (.slice none 0 0) [] := ⟨rfl, rfl, fun h => absurd rfl h, .inl rfl, fun k hk => absurd hk (Nat.not_lt_zero k)⟩
theorem nil6 {h : Heap} : Sl6 h (.slice none 0 0) [] := ⟨rfl, rfl, fun h => absurd rfl h, .inl rfl, fun k hk => absurd hk (Nat.not_lt_zero k)⟩
theorem c38e {d lim F : Nat} {h : Heap} {v : Value} {C : List Value} {nm : ByteArray} {P S : Nat → Int} {X b : Int} (s : Sl4 h v []) (t : Tm C nm P S) (hs : nm.size ≤ 1000) (h0 : chkT nm P S = 0) (hF : 1 ≤ F ∧ F ≤ 1000000) :
    E.call (d + 10) lim 38 [.agg C.toArray, v, .agg #[i64 F, i64 X, i64 b]] h = some (.tuple #[.slice none 0 0, .bool true], h) := by
  have r := s.rules2
  have k70 := fun (L : Heap) lim => c70 (d := d + 7) (lim := lim) ((Sl_freeze.2 s).app L) (by decide)
  have e70 : rn [] 88 = [] := by decide
  rw [e70] at k70
  simp only [lV, lB, if_true, List.append_nil] at k70
  have tp := t.plain
  have tuz : tuE nm P S F = 0 := by
    unfold tuE
    have : isFork (F : Int) = true := by simp [isFork, Z.within]; omega
    rw [if_pos h0, if_pos this]
  have k67 := fun (L : Heap) lim => c67 (d := d + 4) (lim := lim) (h := h.freeze ++ L) nil3 ((Sl_freeze.2 s).app L)
  have eh : hErr [] [] = 0 := by decide +kernel
  have e6 : hL [] [] 0 = [] := rfl
  simp only [hVal, hBlk, eh, sl6, bl6, List.length_nil, e6, if_true, List.append_nil] at k67
  have k22 := fun (L : Heap) lim => c22 (d := d) (lim := lim) (h := h.freeze ++ L) (F := (F : Int)) (bt := fun _ => (0, 0)) nil6 t hs (fun _ _ i hi => absurd hi (Nat.not_lt_zero _))
  have ec : chkN [] = 0 := by decide +kernel
  simp only [tuz, ec, and_self, if_true, fdL, iV, iB, List.length_nil, List.append_nil] at k22
  refine call1 fn38 rfl (by simp [ef38]) ?_
  simp [-collect_own1, ef38, k70, t.len, t.take]
  refine wpC_loop (fun q st => q = 0 ∧ st = ⟨[(1, v), (3, .pointer (some ⟨h.length, 0, none⟩)), (5, .pointer (some ⟨h.length + 1, 0, none⟩)), (8, .slice none 0 0), (9, .slice none 0 0), (10, i64 0)], h.freeze ++ [some ⟨C, true⟩, some ⟨[i64 F, i64 X, i64 b], true⟩]⟩) 0 (by show 0 < 2 ^ 64; decide) ?_ ?_
  · simp [-collect_own1, tp, St.tidy, collect_box, s.own, r]
  · rintro q hq _ ⟨rfl, rfl⟩
    simp [k67, k22, t.len, t.take]
end Z.U
end Go.Abs
/- No tests at all: the smallest explanation. -/
namespace Go.Abs
namespace Z.U
set_option maxRecDepth 100000
set_option maxHeartbeats 0
set_option linter.unusedSimpArgs false
end Z.U
end Go.Abs
/- The law TopInTune. -/
namespace Go.Abs
namespace Z.U
set_option maxRecDepth 100000
set_option maxHeartbeats 0
set_option linter.unusedSimpArgs false
/-- What is heard: the tests of the wrong note. -/
def hdL (l : List P4) (X b : Int) : List Int := if decide (b ≠ 0) = true then sg l X l.length else []
theorem heard {d lim F : Nat} {h : Heap} {v : Value} {l : List P4} {C : List Value} {nm : ByteArray} {P S : Nat → Int} {X b : Int} (s : Sl4 h v l) (sp : SlU h v3p [2, 3, 5]) (t : Tm C nm P S) (hs : nm.size ≤ 1000) (h0 : chkT nm P S = 0)
    (hF : 1000 ≤ F ∧ F ≤ 600000) (hb : b = 0 ∨ 100 ≤ b) (hB : 32 * (F : Int) + 1 + b ≤ 20000000) (hb2 : b ≤ 1000000) (O : TOk l) (l12 : l.length ≤ 12) :
    E.call (d + 10) lim 38 [.agg C.toArray, v, .agg #[i64 F, i64 X, i64 b]] h = some (.tuple #[iV h.length (hdL l X b), .bool true], h ++ iB (hdL l X b)) := by
  by_cases z : l = []
  · subst z
    rw [c38e s t hs h0 (by omega)]
    have : hdL [] X b = [] := by unfold hdL; split <;> rfl
    simp [this, iV, iB]
  have l0 : l.length ≠ 0 := fun y => z (List.eq_nil_of_length_eq_zero y)
  obtain ⟨o, _⟩ := okt h0
  have EX : ∀ n : Nat, ∃ p : Nat × Nat, encN P S F n p.1 p.2 := fun n => by
    obtain ⟨L, H, s⟩ := encS (intX P S 48 n).1 (intX P S 48 n).2.1 (intX P S 48 n).2.2 12 (by decide) F
    exact ⟨(L, H), s⟩
  have he : ∀ n, n ≤ 87 → encN P S F n (Classical.choose (EX n)).1 (Classical.choose (EX n)).2 := fun n _ => Classical.choose_spec (EX n)
  generalize hLf : (fun n => (Classical.choose (EX n)).1) = Lf
  generalize hHf : (fun n => (Classical.choose (EX n)).2) = Hf
  have he' : ∀ n, n ≤ 87 → encN P S F n (Lf n) (Hf n) := fun n hn => by rw [← hLf, ← hHf]; exact he n hn
  have f : FrOk Lf Hf b := ⟨fun n hn => by
    obtain ⟨a1, a2, a3, a4⟩ := frq_bd o hn hF.1 hF.2 (he' n hn)
    exact ⟨a1, a2, a3, by omega⟩, by omega⟩
  have HB : ∀ i, i < l.length → ∃ B : Int × Int, B.1 ≤ B.2 ∧ (at4 l i).2.2.2 * (Lf (at4 l i).2.1.toNat : Int) - (at4 l i).2.2.1 * (Hf (at4 l i).1.toNat : Int) ≤ B.1 ∧ B.2 ≤ (at4 l i).2.2.2 * (Hf (at4 l i).2.1.toNat : Int) - (at4 l i).2.2.1 * (Lf (at4 l i).1.toNat : Int) ∧
      ∀ (d lim : Nat) (hh : Heap), SlU hh v3p [2, 3, 5] → E.call (d + 8) lim 51 [.agg C.toArray, i64 F, vT (at4 l i)] hh = some (r3 (B.1, B.2, 0), hh) := fun i hi => by
    obtain ⟨B, b1, b2, b3, b4⟩ := beat_of2 (x := at4 l i) t hs h0 (by omega) he' (O.chk i hi)
    exact ⟨B, b1, b2, b3, fun d lim hh sp => b4 d lim hh sp⟩
  have HT : ∃ bt : Nat → Int × Int, ∀ i, i < l.length → (bt i).1 ≤ (bt i).2 ∧ (at4 l i).2.2.2 * (Lf (at4 l i).2.1.toNat : Int) - (at4 l i).2.2.1 * (Hf (at4 l i).1.toNat : Int) ≤ (bt i).1 ∧ (bt i).2 ≤ (at4 l i).2.2.2 * (Hf (at4 l i).2.1.toNat : Int) - (at4 l i).2.2.1 * (Lf (at4 l i).1.toNat : Int) ∧
      ∀ (d lim : Nat) (hh : Heap), SlU hh v3p [2, 3, 5] → E.call (d + 8) lim 51 [.agg C.toArray, i64 F, vT (at4 l i)] hh = some (r3 ((bt i).1, (bt i).2, 0), hh) :=
    ⟨fun i => if hi : i < l.length then Classical.choose (HB i hi) else (0, 0), fun i hi => by
      have := Classical.choose_spec (HB i hi)
      simp only [dif_pos hi]
      exact this⟩
  obtain ⟨bt, hbt⟩ := HT
  rw [c38 (d := d) (bt := bt) (X := X) s sp t hs h0 (by omega) he' f hb2 O l12 l0 (fun i hi => ⟨(hbt i hi).1, fun lim hh q => (hbt i hi).2.2.2 d lim hh q⟩)]
  rw [fdL_eq (c := decide (b ≠ 0)) (X := X) (l := l) _ (fun i hi => fail_iff O f hb hi ⟨(hbt i hi).1, (hbt i hi).2.1, (hbt i hi).2.2.1⟩)]
  rfl
end Z.U
end Go.Abs
/- A wrong string: plain facts. -/
namespace Go.Abs
namespace Z.U
set_option maxRecDepth 100000
set_option maxHeartbeats 0
set_option linter.unusedSimpArgs false
theorem ofK_iL (l : List P4) : ∀ k, k ≤ l.length → ofK l (iL l.length) k = l.take k
  | 0, _ => rfl
  | k + 1, h => by
    rw [ofK, ofK_iL l k (by omega), gI_iL (by omega), List.take_add_one, List.getElem?_eq_getElem (by omega)]
    unfold at4
    rw [show ((k : Nat) : Int).toNat = k by omega, List.getElem?_eq_getElem (by omega)]; rfl
theorem ofA_iL (l : List P4) : ofA l (iL l.length) = l := by
  unfold ofA; rw [iL_len, ofK_iL l _ (Nat.le_refl _), List.take_length]
theorem thT_ok {l : List P4} : ∀ k T, SOk l (iL k ++ T) → tw1 (sgA (ofA l (iL k ++ T))) (ntD (ofA l (iL k ++ T))) 0 = none → ntD (ofA l (iL k ++ T)) = ntD l →
    SOk l (thT l k T) ∧ tw1 (sgA (ofA l (thT l k T))) (ntD (ofA l (thT l k T))) 0 = none ∧ ntD (ofA l (thT l k T)) = ntD l
  | 0, T, o, h, e => by simpa [thT, iL] using And.intro o (And.intro h e)
  | k + 1, T, o, h, e => by
    unfold thT
    by_cases z : thin l (iL k ++ T) = true
    · rw [if_pos z]
      unfold thin at z
      rw [Bool.and_eq_true, Option.isNone_iff_eq_none, decide_eq_true_eq] at z
      exact thT_ok k T (SOk_less o) z.1 z.2
    · rw [if_neg z]
      rw [iL_snoc] at o h e
      exact thT_ok k _ o h e
theorem ascB_of {l : List Int} (h : AscL l) : ascB l = true := by
  unfold ascB
  rw [decide_eq_true_eq, fstE_all _ 1 rfl]
  intro i h1 hi
  unfold aErr
  rw [if_neg]
  rintro ⟨h0, hl⟩
  have := h (i - 1) i (by omega) hi
  omega
theorem cfE_sgA {l : List P4} {n : Int} (h : chkTs l = 0) : cfE l (sgA l n) = 0 := by
  unfold cfE
  rw [if_pos h, if_neg, if_pos (show ascB (sgA l n) = true from ascB_of (asc_of (sg_asc l n _)))]
  rw [List.any_eq_true]
  rintro ⟨x, hx, hw⟩
  obtain ⟨j, hj, rfl, _⟩ := (mem_sg _).1 hx
  have : within (j : Int) 0 ((l.length : Int) - 1) = true := by unfold within; rw [decide_eq_true_eq]; omega
  rw [this] at hw; cases hw
theorem nt_of_sgA {l : List P4} {n : Int} (h : sgA l n ≠ []) : n ∈ ntD l := by
  obtain ⟨y, hy⟩ := List.exists_mem_of_ne_nil _ h
  obtain ⟨j, hj, _, e⟩ := (mem_sg _).1 hy
  exact dd_mem _ (Nat.le_refl _) (by rw [List.take_length]; exact mem_ntS.2 ((mem_nts _).2 ⟨j, hj, by simpa [isIn] using e⟩))
theorem sgA_of_nt {l : List P4} {n : Int} (h : n ∈ ntD l) : sgA l n ≠ [] := by
  have hx : n ∈ ntS l := mem_dd _ (Nat.le_refl _) h
  obtain ⟨i, hi, e⟩ := (mem_nts _).1 (mem_ntS.1 hx)
  have m : (i : Int) ∈ sgA l n := (mem_sg _).2 ⟨i, hi, rfl, by simpa [isIn] using e⟩
  intro z
  rw [z] at m; cases m
theorem hdL_b {l : List P4} {n b : Int} (h : b ≠ 0) : hdL l n b = sgA l n := by
  unfold hdL
  rw [if_pos (by simpa using h)]; rfl
end Z.U
end Go.Abs
/- The law TopWrongString. -/
namespace Go.Abs
namespace Z.U
set_option maxRecDepth 100000
set_option maxHeartbeats 0
set_option linter.unusedSimpArgs false
theorem law7 (lim : Nat) {h : Heap} (sp : SlU h v3p [2, 3, 5]) {C : List Value} {nm : ByteArray} {P S : Nat → Int} {F n b : Int} {v : Value} {l : List P4} (t : Tm C nm P S) (s : Sl4 h v l) :
    E.call 31 lim 7 [.agg C.toArray, v, .agg #[i64 F, i64 n, i64 b]] h = some (.bool true, h) := by
  have r := s.rules2
  have tp := t.plain
  have sp2 : ∀ L, SlU (h.freeze ++ L) v3p [2, 3, 5] := fun L => (Sl_freeze.2 sp).app L
  have k35 := fun (L : Heap) lim => c35 (d := 20) (lim := lim) (sp2 L)
  have k9 := fun lim hh => Z.c9 (d := 29) (lim := lim) (h := hh) t
  have k36 := fun lim hh => Z.c36 (d := 25) (lim := lim) (h := hh) t
  have k13 := fun (L : Heap) lim => c13 (d := 26) (lim := lim) ((Sl_freeze.2 s).app L)
  have k37 := fun a b c lim hh => U.c37 (d := 29) (lim := lim) (h := hh) (a := a) (b := b) (c := c)
  refine call1 fn7 rfl (by simp [ef7]) ?_
  by_cases hs : nm.size ≤ 30
  case neg => simp [ef7, k35, t.len, t.take, k9, hs]
  by_cases h8 : l.length ≤ 8
  case neg =>
    have h8i : (8 : Int) < l.length := by omega
    have h8j : ¬ (l.length : Int) ≤ 8 := by omega
    simp [ef7, k35, t.len, t.take, k9, hs, r, h8i, h8j]
  have h8i : ¬ (8 : Int) < l.length := by omega
  have h8k : (l.length : Int) ≤ 8 := by omega
  by_cases h0 : chkT nm P S = 0
  case neg => simp [ef7, k35, t.len, t.take, k9, hs, r, h8, h8i, h8k, Nat.not_lt.2 h8, k36, h0]
  by_cases hT : chkTs l = 0
  case neg => simp [ef7, k35, t.len, t.take, k9, hs, r, h8, h8i, h8k, Nat.not_lt.2 h8, k36, h0, k13, hT]
  by_cases hw : within F 400000 480000 = true
  case neg => simp [ef7, k35, t.len, t.take, k9, hs, r, h8, h8i, h8k, Nat.not_lt.2 h8, k36, h0, k13, hT, k37, hw]
  by_cases hb : within b 100 1000000 = true
  case neg => simp [ef7, k35, t.len, t.take, k9, hs, r, h8, h8i, h8k, Nat.not_lt.2 h8, k36, h0, k13, hT, k37, hw, hb]
  have O := TOk.of hT
  have k41 := fun (L : Heap) lim => c41 (d := 29) (lim := lim) (n := n) ((Sl_freeze.2 s).app L) (by omega)
  by_cases hA : sgA l n = []
  · simp only [lV, lB, if_pos hA, List.append_nil] at k41
    simp [ef7, k35, t.len, t.take, k9, hs, r, h8, h8i, h8k, Nat.not_lt.2 h8, k36, h0, k13, hT, k37, hw, hb, k41]
  simp only [lV, lB, if_neg hA] at k41
  have hn := nt_of_sgA hA
  have l0 : l.length ≠ 0 := fun y => hA (by rw [List.eq_nil_of_length_eq_zero y]; rfl)
  have lne : ¬ l = [] := fun y => l0 (by rw [y]; rfl)
  obtain ⟨F, rfl⟩ : ∃ n : Nat, F = n := ⟨F.toNat, by simp [within] at hw; omega⟩
  have hF : 400000 ≤ F ∧ F ≤ 480000 := by simp [within] at hw; omega
  have hbb : 100 ≤ b ∧ b ≤ 1000000 := by simpa [within] using hb
  have k38 := fun (L : Heap) lim => heard (F := F) (d := 20) (lim := lim) (X := n) (b := b) ((Sl_freeze.2 s).app L) (sp2 L) t (by omega) h0 (by omega) (.inr hbb.1) (by omega) hbb.2 O (by omega)
  rw [hdL_b (by omega)] at k38
  simp only [iV, iB, if_neg hA] at k38
  have la : (sgA l n).length ≤ 1000 := by
    have := sg_len l n l.length
    unfold sgA; omega
  have k23 := fun (L : Heap) (b1 b2 n1 n2 lim : Nat) (g1 : Heap.get (h.freeze ++ L) b1 = some ⟨cI (sgA l n), true⟩) (e1 : n1 = (sgA l n).length) (g2 : Heap.get (h.freeze ++ L) b2 = some ⟨cI (sgA l n), true⟩) (e2 : n2 = (sgA l n).length) => c23 (d := 29) (lim := lim) (SlI'_own g1 e1) (SlI'_own g2 e2) (by omega) (by omega)
  have k42 := fun (L : Heap) lim => c42 (d := 20) (lim := lim) ((Sl_freeze.2 s).app L) (fun _ => by omega)
  unfold sinV at k42
  simp only [if_pos hT] at k42
  rcases hW : tw1 (sgA l) (ntD l) 0 with _ | p
  case some =>
    simp only [hW] at k42
    simp [ef7, k35, t.len, t.take, k9, hs, r, h8, h8i, h8k, Nat.not_lt.2 h8, k36, h0, k13, hT, k37, hw, hb, k41, hA, k38, k23, k42, Nat.add_assoc]
  simp only [hW] at k42
  have k39 := fun (L : Heap) (b1 n1 lim : Nat) (g1 : Heap.get (h.freeze ++ L) b1 = some ⟨cI (sgA l n), true⟩) (e1 : n1 = (sgA l n).length) => c39 (d := 21) (lim := lim) ((Sl_freeze.2 s).app L) (SlI'_own g1 e1) la (by omega) (cfE_sgA hT) l0
  rw [suA_one O hW hn] at k39
  have ci1 : cI [n] = [i64 n] := rfl
  simp only [lV, lB, List.cons_ne_nil, if_false, reduceCtorEq, List.length_cons, List.length_nil, ci1] at k39
  have k23n := fun (L : Heap) (b1 b2 lim : Nat) (g1 : Heap.get (h.freeze ++ L) b1 = some ⟨[i64 n], true⟩) (g2 : Heap.get (h.freeze ++ L) b2 = some ⟨[i64 n], true⟩) => c23 (d := 29) (lim := lim) (h := h.freeze ++ L) (v := vS b1 1) (w := vS b2 1) (a := [n]) (b := [n]) (SlI'_own g1 rfl) (SlI'_own g2 rfl) (by simp) (by simp)
  have k43 := fun (L : Heap) lim => c43 (d := 20) (lim := lim) ((Sl_freeze.2 s).app L) (fun _ => by omega)
  have tk : thOk l = true := by unfold thOk; rw [hW, hT]; rfl
  simp only [if_pos tk, if_pos hT, thV, thB, if_neg l0] at k43
  obtain ⟨RO, RT, RN⟩ := thT_ok l.length [] (by rw [List.append_nil]; exact SOk.iL l) (by rw [List.append_nil, ofA_iL]; exact hW) (by rw [List.append_nil, ofA_iL])
  have rl := RO.len
  have RS := RO.at
  generalize hR : thT l l.length [] = R at *
  have OR := O.sub RO
  have lR : (ofA l R).length = R.length := ofK_len l R _
  have hn2 : n ∈ ntD (ofA l R) := by rw [RN]; exact hn
  have hA2 := sgA_of_nt hn2
  have r0 : R.length ≠ 0 := fun y => hA2 (by rw [List.eq_nil_of_length_eq_zero (lR.trans y)]; rfl)
  have so4 := fun (L : Heap) (b' n' : Nat) (hg : Heap.get (h.freeze ++ L) b' = some ⟨cS enc4 (ofA l R), true⟩) (hn : n' = (ofA l R).length) => Sl_own (f := enc4) (es := 4) (fun _ => rfl) hg hn
  have k38b := fun (L : Heap) (b' n' lim : Nat) (hg : Heap.get (h.freeze ++ L) b' = some ⟨cS enc4 (ofA l R), true⟩) (hn : n' = (ofA l R).length) => heard (F := F) (d := 20) (lim := lim) (X := n) (b := b) (so4 L b' n' hg hn) (sp2 L) t (by omega) h0 (by omega) (.inr hbb.1) (by omega) hbb.2 OR (by omega)
  rw [hdL_b (by omega)] at k38b
  simp only [iV, iB, if_neg hA2] at k38b
  have la2 : (sgA (ofA l R) n).length ≤ 1000 := by
    have := sg_len (ofA l R) n (ofA l R).length
    unfold sgA; omega
  have k39b := fun (L : Heap) (b' n' b1 n1 lim : Nat) (hg : Heap.get (h.freeze ++ L) b' = some ⟨cS enc4 (ofA l R), true⟩) (hn : n' = (ofA l R).length) (g1 : Heap.get (h.freeze ++ L) b1 = some ⟨cI (sgA (ofA l R) n), true⟩) (e1 : n1 = (sgA (ofA l R) n).length) => c39 (d := 21) (lim := lim) (so4 L b' n' hg hn) (SlI'_own g1 e1) la2 (by omega) (cfE_sgA (chkTs_0 OR)) (by omega)
  rw [suA_one OR RT hn2] at k39b
  simp only [lV, lB, List.cons_ne_nil, if_false, reduceCtorEq, List.length_cons, List.length_nil, ci1] at k39b
  have rli : ¬ (l.length : Int) < R.length := by omega
  obtain ⟨Y, hY⟩ : ∃ Y, Y = R ++ rZ l.length R.length := ⟨_, rfl⟩
  have cpR := cI_plain Y
  have gY : ∀ j, j < R.length → j < Y.length ∧ gI Y j = gI R j := fun j hj => ⟨by rw [hY, List.length_append]; omega, by rw [hY, gI_app_l hj]⟩
  rw [← hY] at k43
  simp [-collect_own1, ef7, k35, t.len, t.take, k9, hs, r, h8, h8i, h8k, Nat.not_lt.2 h8, k36, h0, k13, hT, k37, hw, hb, k41, hA, k38, k23, k42, k39, k23n, k43, rl, rli, Nat.not_lt.2 rl, Nat.add_assoc]
  refine wpC_loop (fun q st => ∃ i : Nat, q = R.length - i ∧ i ≤ R.length ∧ st = ⟨[(1, v), (3, .pointer (some ⟨h.length, 0, none⟩)), (5, .pointer (some ⟨h.length + 1, 0, none⟩)), (14, vS (h.length + 2) R.length), (15, lV4 (h.length + 3) (ofK l R i)), (16, i64 (i : Int))], h.freeze ++ some ⟨C, true⟩ :: some ⟨[i64 F, i64 n, i64 b], true⟩ :: some ⟨cI Y, true⟩ :: lB4 (ofK l R i)⟩) R.length (by show R.length < 2 ^ 64; omega) ?_ ?_
  · simp [-collect_own1, tp, cpR, St.tidy, collect_box, s.own, r]
    exact ⟨0, by omega, by omega, ⟨by simp [ofK, lV4], rfl⟩, by simp [ofK, lB4]⟩
  · rintro q hq _ ⟨i, rfl, hi, rfl⟩
    have lenk := ofK_len l R i
    by_cases hlt : i < R.length
    · have hlti : (i : Int) < R.length := by omega
      have w1' := w1 (i := i) (by omega)
      obtain ⟨p1, p2, p3, p4, p5⟩ := ixL (gY i hlt).1
      rw [(gY i hlt).2] at p2 p3
      obtain ⟨a0, a1⟩ := RS i hlt
      have wl : IntKind.wrap .i64 ((l.length : Int) - 1) = (l.length : Int) - 1 := wrap_eq (by omega) (by omega)
      have wi : within (gI R i) 0 ((l.length : Int) - 1) = true := by unfold within; rw [decide_eq_true_eq]; omega
      have ax : (gI R i).toNat < l.length := by omega
      have pt := c4_part ax
      have k4 : (gI R i).toNat * 4 + 4 ≤ l.length * 4 := by omega
      have hnx : ofK l R (i + 1) = ofK l R i ++ [at4 l (gI R i).toNat] := rfl
      have hsn := cS4_snoc (ofK l R i) (at4 l (gI R i).toNat)
      rw [← hnx] at hsn
      have cp := c4_plain (ofK l R (i + 1))
      have cl := c4_len (ofK l R i)
      have lenk1 := ofK_len l R (i + 1)
      rw [lenk] at cl
      have ne1 : ¬ ofK l R (i + 1) = [] := fun z => by rw [z] at lenk1; cases lenk1
      by_cases e : ofK l R i = []
      · have i0 : i = 0 := by rw [e] at lenk; simpa using lenk.symm
        rw [e, show cS enc4 [] = [] from rfl, List.nil_append] at hsn
        generalize gI R i = x at *
        simp [-collect_own1, k37, wl, wi, lV4, lB4, e, hlt, hlti, Nat.not_le.2 hlt, p1, p2, p3, p4, a0, a1, ax, k4, pt, fillL, zeros, E.append, E.added, w1', St.tidy, collect_box, s.own, r, cpR, tp]
        exact ⟨by decide, R.length - (i + 1), by omega, i + 1, rfl, by omega, ⟨by rw [if_neg ne1, lenk1, i0], by omega⟩, by rw [if_neg ne1]; exact congrArg (fun c => [some (Blk.mk c true)]) hsn⟩
      · generalize gI R i = x at *
        simp [-collect_own1, k37, wl, wi, lV4, lB4, e, lenk, hlt, hlti, Nat.not_le.2 hlt, p1, p2, p3, p4, a0, a1, ax, k4, pt, fillL, zeros, E.append, E.added, cl, hsn, cp, w1', St.tidy, collect_box, s.own, r, cpR, tp]
        exact ⟨⟨by omega, by unfold maxLen; omega⟩, R.length - (i + 1), by omega, i + 1, rfl, by omega, ⟨by rw [if_neg ne1, lenk1], by omega⟩, by rw [if_neg ne1]⟩
    · obtain rfl : R.length = i := by omega
      have Rl : ofK l R R.length = ofA l R := rfl
      rw [Rl]
      have e : ¬ ofA l R = [] := fun y => r0 (by rw [← lR, y]; rfl)
      simp [-collect_own1, lV4, lB4, e, k38b, k39b, k23n, t.len, t.take, Nat.add_assoc]
end Z.U
end Go.Abs
