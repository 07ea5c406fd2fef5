/- Chapter 7: thinning: the law. -/
import Derived.Test.YtfbelnhibipndaaAbsUN5
import Derived.Test.YtfbelnhibipndaaAbsUT
set_option linter.unusedSimpArgs false
set_option linter.unusedVariables false
namespace Go.Abs
namespace U
set_option maxRecDepth 100000
set_option maxHeartbeats 0
set_option linter.unusedSimpArgs false
theorem ofK_iL (l : List P4) : ∀ k, k ≤ l.length → ofK l (iL l.length) k = l.take k
  | 0, _ => rfl
  | k + 1, h => by
    rw [ofK, ofK_iL l k (by omega), gI_iL (by omega), List.take_add_one, List.getElem?_eq_getElem (by omega)]
    unfold at4
    rw [show ((k : Nat) : Int).toNat = k by omega, List.getElem?_eq_getElem (by omega)]; rfl
theorem ofA_iL (l : List P4) : ofA l (iL l.length) = l := by
  unfold ofA; rw [iL_len, ofK_iL l _ (Nat.le_refl _), List.take_length]
theorem thT_ok {l : List P4} : ∀ k T, SOk l (iL k ++ T) → tw1 (sgA (ofA l (iL k ++ T))) (ntD (ofA l (iL k ++ T))) 0 = none →
    SOk l (thT l k T) ∧ tw1 (sgA (ofA l (thT l k T))) (ntD (ofA l (thT l k T))) 0 = none
  | 0, T, o, h => by simpa [thT, iL] using And.intro o h
  | k + 1, T, o, h => by
    unfold thT
    by_cases z : thin l (iL k ++ T) = true
    · rw [if_pos z]
      refine thT_ok k T (SOk_less o) ?_
      unfold thin at z
      rw [Bool.and_eq_true, Option.isNone_iff_eq_none] at z
      exact z.1
    · rw [if_neg z]
      rw [iL_snoc] at o h
      exact thT_ok k _ o h
theorem law13 {bs : Heap} {lim : Nat} {v : Value} {l : List P4} (h1 : bs.length = 1) (s : Sl4 bs v l) : E.call 31 lim 13 [v] bs = some (.bool true, bs) := by
  have r := s.rules2
  obtain ⟨x, hx⟩ : ∃ x, Heap.freeze bs = [x] := by
    match bs, h1 with
    | [y], _ => exact ⟨_, rfl⟩
  have aw := fun lim => awake1 lim x
  rw [← hx] at aw
  have K39 := fun lim => c39 (d := 29) (lim := lim) (m := 10) (Sl_freeze.2 s)
  refine call1 fn13 rfl (by simp [ef13]) ?_
  by_cases q0 : fewB l.length 10 = true
  case neg => simp [ef13, aw, K39, q0]
  have hl : l.length ≤ 63 := by
    unfold fewB at q0
    simp at q0; omega
  have h10 : chkTs l = 0 → l.length ≤ 12 := fun z => by
    have := (TOk.of z).len
    unfold fewB at q0
    simp at q0; omega
  have K41b := fun lim => c41 (d := 29) (lim := lim) (Sl_freeze.2 s) (by omega)
  have so := fun (L : Heap) (b' n' : Nat) (hg : Heap.get (bs.freeze ++ L) b' = some ⟨cS enc4 l, true⟩) (hn : n' = l.length) => Sl_own (f := enc4) (es := 4) (fun _ => rfl) hg hn
  have K62 := fun (L : Heap) (b' n' lim : Nat) (hg : Heap.get (bs.freeze ++ L) b' = some ⟨cS enc4 l, true⟩) (hn : n' = l.length) => c62 (d := 20) (lim := lim) (so L b' n' hg hn) h10
  have K55 := fun (L : Heap) lim => c55 (d := 26) (lim := lim) ((Sl_freeze.2 s).app L)
  unfold thOk thV thB at K62
  have w0 : IntKind.wrap .i64 0 = 0 := wrap_eq (by omega) (by omega)
  by_cases q1 : chkTs l = 0
  case neg =>
    simp [q1] at K62
    simp [ef13, aw, K39, q0, K41b, K62, K55, q1, w0, Nat.add_assoc]
  have O := TOk.of q1
  have eN := ntD_rn O
  have K57 := fun (L : Heap) lim => c57 (d := 27) (lim := lim) ((Sl_freeze.2 s).app L) (by omega)
  rw [← eN] at K57
  have K63 := fun (L : Heap) lim => c63 (d := 26) (lim := lim) ((Sl_freeze.2 s).app L) O
  rcases hT : tw1 (sgA l) (ntD l) 0 with _ | ⟨x, y⟩
  case some =>
    simp [q1, hT] at K62
    simp only [hT, twV] at K57
    simp [ef13, aw, K39, q0, K41b, K62, K55, K57, q1, w0, Nat.add_assoc]
  simp only [hT, twV] at K57
  simp [q1, hT] at K62
  obtain ⟨RO, RT⟩ := thT_ok l.length [] (by rw [List.append_nil]; exact SOk.iL l) (by rw [List.append_nil, ofA_iL]; exact hT)
  have rl := RO.len
  have RS := RO.at
  generalize hR : thT l l.length [] = R at *
  have ll : l.length ≤ 12 := h10 q1
  have nz : SlI' bs (.slice none 0 0) [] := ⟨rfl, rfl, fun h => absurd rfl h, .inl rfl, fun k hk => absurd hk (Nat.not_lt_zero k)⟩
  have nz4 : Sl4 bs (.slice none 0 0) [] := ⟨rfl, rfl, fun h => absurd rfl h, .inl rfl, fun k hk => absurd hk (Nat.not_lt_zero k)⟩
  by_cases z : l.length = 0
  · have ln : l = [] := List.eq_nil_of_length_eq_zero z
    simp only [if_pos z, if_pos ln, List.append_nil] at K62 K63
    have q00 : fewB 0 10 = true := by decide
    have K47n := fun (L : Heap) lim => c47 (d := 29) (lim := lim) ((Sl_freeze.2 nz).app L) ((Sl_freeze.2 nz).app L) (by decide) (by decide)
    have K54n := fun (L : Heap) lim => c54 (d := 20) (lim := lim) ((Sl_freeze.2 nz4).app L) (fun _ => by decide)
    have c0 : chkTs [] = 0 := ln ▸ q1
    have hT0 : tw1 (sgA []) (ntD []) 0 = none := ln ▸ hT
    have K54' : ∀ (L : Heap) lim, E.call 30 lim 54 [.slice none 0 0] (bs.freeze ++ L) = some (.tuple #[.bool true, .agg #[i64 0, i64 0], i64 0], bs.freeze ++ L) := fun L lim => by
      have := K54n L lim
      rw [show sinV [] = .tuple #[.bool true, .agg #[i64 0, i64 0], i64 0] by unfold sinV; rw [if_pos c0, hT0]] at this
      exact this
    simp [-collect_own1, ef13, aw, K39, q0, K41b, K62, K55, K57, K63, K47n, q1, w0, Nat.add_assoc, z, q00]
    rw [wpC_unroll, wpI_step (by simp [E_fuel'])]
    have K54b := fun lim => K54' [] lim
    simp only [List.append_nil] at K54b
    simp [-collect_own1, St.tidy, collect_box, s.own, r, K54', K54b]
  have lne : ¬ l = [] := fun e => z (by rw [e]; rfl)
  simp only [if_neg z, lne, if_false] at K62 K63
  have K47 := fun (L : Heap) (b1 b2 n1 n2 lim : Nat) (g1 : Heap.get (bs.freeze ++ L) b1 = some ⟨cI (R ++ rZ l.length R.length), true⟩) (e1 : n1 = R.length) (g2 : Heap.get (bs.freeze ++ L) b2 = some ⟨cI R, true⟩) (e2 : n2 = R.length) => c47 (d := 29) (lim := lim) (SlI'_pre g1 e1) (SlI'_own g2 e2) (by omega) (by omega)
  have so := fun (L : Heap) (b' n' : Nat) (hg : Heap.get (bs.freeze ++ L) b' = some ⟨cS enc4 (ofA l R), true⟩) (hn : n' = (ofA l R).length) => Sl_own (f := enc4) (es := 4) (fun _ => rfl) hg hn
  have OR := O.sub RO
  have lR : (ofA l R).length = R.length := ofK_len l R _
  have K54 := fun (L : Heap) (b' n' lim : Nat) (hg : Heap.get (bs.freeze ++ L) b' = some ⟨cS enc4 (ofA l R), true⟩) (hn : n' = (ofA l R).length) => c54 (d := 20) (lim := lim) (so L b' n' hg hn) (fun _ => by omega)
  have K54n := fun (L : Heap) lim => c54 (d := 20) (lim := lim) ((Sl_freeze.2 nz4).app L) (fun _ => by decide)
  have sv : sinV (ofA l R) = .tuple #[.bool true, .agg #[i64 0, i64 0], i64 0] := by unfold sinV; rw [if_pos (chkTs_0 OR), RT]
  rw [sv] at K54
  have cpR := cI_plain (R ++ rZ l.length R.length)
  obtain ⟨Y, hY⟩ : ∃ Y, Y = R ++ rZ l.length R.length := ⟨_, rfl⟩
  have gY : ∀ j, j < R.length → j < Y.length ∧ gI Y j = gI R j := fun j hj => ⟨by rw [hY, List.length_append]; omega, by rw [hY, gI_app_l hj]⟩
  rw [← hY] at K62 K47 cpR
  simp [-collect_own1, ef13, aw, K39, q0, K41b, K62, K55, K57, K63, K47, q1, w0, Nat.add_assoc, z, lne]
  refine wpC_loop (fun q st => ∃ i : Nat, q = R.length - i ∧ i ≤ R.length ∧ st = ⟨[(0, v), (3, vS bs.length R.length), (8, lV4 (bs.length + 1) (ofK l R i)), (9, i64 (i : Int))], bs.freeze ++ some ⟨cI Y, true⟩ :: lB4 (ofK l R i)⟩) R.length (by show R.length < 2 ^ 64; omega) ?_ ?_
  · simp [-collect_own1, cpR, St.tidy, collect_box, s.own, r]
    exact ⟨0, by omega, by omega, ⟨by simp [ofK, lV4], rfl⟩, by simp [ofK, lB4]⟩
  · rintro q hq _ ⟨i, rfl, hi, rfl⟩
    have lenk := ofK_len l R i
    by_cases hlt : i < R.length
    · have hlti : (i : Int) < R.length := by omega
      have w1' := w1 (i := i) (by omega)
      obtain ⟨p1, p2, p3, p4, p5⟩ := ixL (gY i hlt).1
      rw [(gY i hlt).2] at p2 p3
      obtain ⟨a0, a1⟩ := RS i hlt
      have ax : (gI R i).toNat < l.length := by omega
      have pt := c4_part ax
      have k4 : (gI R i).toNat * 4 + 4 ≤ l.length * 4 := by omega
      have hnx : ofK l R (i + 1) = ofK l R i ++ [at4 l (gI R i).toNat] := rfl
      have hsn := cS4_snoc (ofK l R i) (at4 l (gI R i).toNat)
      rw [← hnx] at hsn
      have cp := c4_plain (ofK l R (i + 1))
      have cl := c4_len (ofK l R i)
      have lenk1 := ofK_len l R (i + 1)
      rw [lenk] at cl
      have ne1 : ¬ ofK l R (i + 1) = [] := fun z => by rw [z] at lenk1; cases lenk1
      by_cases e : ofK l R i = []
      · have i0 : i = 0 := by rw [e] at lenk; simpa using lenk.symm
        rw [e, show cS enc4 [] = [] from rfl, List.nil_append] at hsn
        generalize gI R i = x at *
        simp [-collect_own1, lV4, lB4, e, hlt, hlti, Nat.not_le.2 hlt, p1, p2, p3, p4, a0, a1, ax, k4, pt, fillL, zeros, E.append, E.added, w1', St.tidy, collect_box, s.own, r, cpR]
        exact ⟨by decide, R.length - (i + 1), by omega, i + 1, rfl, by omega, ⟨by rw [if_neg ne1, lenk1, i0], by omega⟩, by rw [if_neg ne1]; exact congrArg (fun c => [some (Blk.mk c true)]) hsn⟩
      · generalize gI R i = x at *
        simp [-collect_own1, lV4, lB4, e, lenk, hlt, hlti, Nat.not_le.2 hlt, p1, p2, p3, p4, a0, a1, ax, k4, pt, fillL, zeros, E.append, E.added, cl, hsn, cp, w1', St.tidy, collect_box, s.own, r, cpR]
        exact ⟨⟨by omega, by unfold maxLen; omega⟩, R.length - (i + 1), by omega, i + 1, rfl, by omega, ⟨by rw [if_neg ne1, lenk1], by omega⟩, by rw [if_neg ne1]⟩
    · obtain rfl : R.length = i := by omega
      have Rl : ofK l R R.length = ofA l R := rfl
      rw [Rl]
      by_cases e : ofA l R = []
      · rw [e] at sv
        rw [sv] at K54n
        simp [-collect_own1, lV4, lB4, e, K54n]
      · simp [-collect_own1, lV4, lB4, e, K54]
end U
end Go.Abs
