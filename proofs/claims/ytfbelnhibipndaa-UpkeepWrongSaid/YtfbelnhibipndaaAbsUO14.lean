/- Chapter 7: the wrong string: the law. -/
import Derived.Test.YtfbelnhibipndaaAbsUOP
import Derived.Test.YtfbelnhibipndaaAbsUT
set_option linter.unusedSimpArgs false
set_option linter.unusedVariables false
namespace Go.Abs
namespace U
set_option maxRecDepth 100000
set_option maxHeartbeats 0
set_option linter.unusedSimpArgs false
theorem ascB_of {l : List Int} (h : AscL l) : ascB l = true := by
  unfold ascB
  rw [decide_eq_true_eq, fstE_all _ 1 rfl]
  intro i h1 hi
  unfold aErr
  rw [if_neg]
  rintro ⟨h0, hl⟩
  have := h (i - 1) i (by omega) hi
  omega
theorem cfE_sgA {l : List P4} {n : Int} (h : chkTs l = 0) : cfE l (sgA l n) = 0 := by
  unfold cfE
  rw [if_pos h, if_neg, if_pos (show ascB (sgA l n) = true from ascB_of (asc_of (sg_asc l n _)))]
  rw [List.any_eq_true]
  rintro ⟨x, hx, hw⟩
  obtain ⟨j, hj, rfl, _⟩ := (mem_sg _).1 hx
  have : within (j : Int) 0 ((l.length : Int) - 1) = true := by unfold within; rw [decide_eq_true_eq]; omega
  rw [this] at hw; cases hw
theorem ntD_of {l : List P4} {n : Int} (h : sgA l n ≠ []) : n ∈ ntD l := by
  obtain ⟨y, hy⟩ := List.exists_mem_of_ne_nil _ h
  obtain ⟨j, hj, _, e⟩ := (mem_sg _).1 hy
  exact dd_mem _ (Nat.le_refl _) (by rw [List.take_length]; exact mem_ntS.2 ((mem_nts _).2 ⟨j, hj, by simpa [isIn] using e⟩))
theorem exE_nil {l : List P4} {n : Int} (h : sgA l n ≠ []) : exE l (sgA l n) [] ≠ 0 := fun z => by
  obtain ⟨y, hy⟩ := List.exists_mem_of_ne_nil _ h
  obtain ⟨j, hj, rfl, e⟩ := (mem_sg _).1 hy
  have := (exE_0.1 z j hj).1 ((fndI_iff (asc_of (sg_asc l n _))).2 hy)
  rcases this with q | q
  · have := hasI_iff.1 q; cases this
  · have := hasI_iff.1 q; cases this
theorem law12 {bs : Heap} {lim : Nat} {v : Value} {l : List P4} {n : Int} (h1 : bs.length = 1) (s : Sl4 bs v l) : E.call 31 lim 12 [v, i64 n] bs = some (.bool true, bs) := by
  have r := s.rules2
  obtain ⟨x, hx⟩ : ∃ x, Heap.freeze bs = [x] := by
    match bs, h1 with
    | [y], _ => exact ⟨_, rfl⟩
  have aw := fun lim => awake1 lim x
  rw [← hx] at aw
  refine call1 fn12 rfl (by simp [ef12]) ?_
  by_cases q0 : l.length ≤ 10
  case neg =>
    have q0i : (10 : Int) < l.length := by omega
    have q0k : ¬ (l.length : Int) ≤ 10 := by omega
    simp [ef12, aw, r, q0, q0i, q0k, Nat.lt_of_not_le q0]
  have q0i : ¬ (10 : Int) < l.length := by omega
  have q0j : (l.length : Int) ≤ 10 := by omega
  have K41 := fun (L : Heap) lim => c41 (d := 29) (lim := lim) ((Sl_freeze.2 s).app L) (by omega)
  have K41b := fun lim => c41 (d := 29) (lim := lim) (Sl_freeze.2 s) (by omega)
  have so := fun (L : Heap) (b' n' : Nat) (hg : Heap.get (bs.freeze ++ L) b' = some ⟨cS enc4 l, true⟩) (hn : n' = l.length) => Sl_own (f := enc4) (es := 4) (fun _ => rfl) hg hn
  have K59 := fun (L : Heap) (b' n' lim : Nat) (hg : Heap.get (bs.freeze ++ L) b' = some ⟨cS enc4 l, true⟩) (hn : n' = l.length) => c59 (d := 26) (lim := lim) (so L b' n' hg hn)
  by_cases q1 : chkTs l = 0
  case neg => simp [ef12, aw, r, q0, q0i, q0j, K41, K41b, K59, q1]
  have O := TOk.of q1
  have K52 := fun (L : Heap) (b' n' lim : Nat) (hg : Heap.get (bs.freeze ++ L) b' = some ⟨cS enc4 l, true⟩) (hn : n' = l.length) => c52 (d := 21) (lim := lim) (so L b' n' hg hn) (fun _ => by omega)
  have K53 := fun (L : Heap) (b' n' lim : Nat) (hg : Heap.get (bs.freeze ++ L) b' = some ⟨cS enc4 l, true⟩) (hn : n' = l.length) => c53 (d := 25) (lim := lim) (n := n) (so L b' n' hg hn) (by omega)
  have K54 := fun (L : Heap) (b' n' lim : Nat) (hg : Heap.get (bs.freeze ++ L) b' = some ⟨cS enc4 l, true⟩) (hn : n' = l.length) => c54 (d := 20) (lim := lim) (so L b' n' hg hn) (fun _ => by omega)
  unfold sinV at K54
  rw [if_pos q1] at K54
  rcases hT : tw1 (sgA l) (ntD l) 0 with _ | ⟨x, y⟩
  case some =>
    simp only [hT] at K54
    by_cases q2 : sgE l n = 0
    · simp [ef12, aw, r, q0, q0i, q0j, K41, K41b, K59, K53, K54, q1, q2, Nat.add_assoc]
    · simp [ef12, aw, r, q0, q0i, q0j, K41, K41b, K59, K53, K54, q1, q2, Nat.add_assoc]
  simp only [hT] at K54
  by_cases q2 : sgE l n = 0
  case neg => simp [ef12, aw, r, q0, q0i, q0j, K41, K41b, K59, K53, K54, q1, q2, Nat.add_assoc]
  have q3 : sgA l n ≠ [] := by
    unfold sgE at q2
    rw [if_pos q1] at q2
    intro z
    by_cases w : within n 0 87 = true
    · rw [if_pos w, if_pos z] at q2; cases q2
    · rw [if_neg w] at q2; cases q2
  have hn := ntD_of q3
  have l0 : l.length ≠ 0 := fun z => q3 (List.eq_nil_of_length_eq_zero (by have := sgA_len l n; omega))
  have hnil : ¬ l = [] := fun e => l0 (by rw [e]; rfl)
  have al := sgA_len l n
  have eF := cfE_sgA (n := n) q1
  have hs1 := suA_one O hT hn
  have K60 := fun (L : Heap) (b' n' b2 n2 lim : Nat) (hg : Heap.get (bs.freeze ++ L) b' = some ⟨cS enc4 l, true⟩) (hn : n' = l.length) (hg2 : Heap.get (bs.freeze ++ L) b2 = some ⟨cI (sgA l n), true⟩) (hn2 : n2 = (sgA l n).length) =>
    c60 (d := 21) (lim := lim) (so L b' n' hg hn) (SlI'_own hg2 hn2) (by omega) (by omega) eF l0
  rw [hs1] at K60
  have K61 := fun (L : Heap) (b' n' b2 n2 lim : Nat) (hg : Heap.get (bs.freeze ++ L) b' = some ⟨cS enc4 l, true⟩) (hn' : n' = l.length) (hg2 : Heap.get (bs.freeze ++ L) b2 = some ⟨cI (sgA l n), true⟩) (hn2 : n2 = (sgA l n).length) =>
    c61w (d := 21) (lim := lim) (n := n) (so L b' n' hg hn') (SlI'_own hg2 hn2) (by omega) (by omega) eF l0 (exE_nil q3) (fun x hx => exE_own O hT hn hx) hn
  have K47 := fun (L : Heap) (b1 b2 lim : Nat) (g1 : Heap.get (bs.freeze ++ L) b1 = some ⟨cI [n], true⟩) (g2 : Heap.get (bs.freeze ++ L) b2 = some ⟨cI [n], true⟩) => c47 (d := 29) (lim := lim) (SlI'_own (n := 1) g1 rfl) (SlI'_own (n := 1) g2 rfl) (by simp) (by simp)
  have cn : cI [n] = [i64 n] := rfl
  rw [cn] at K47
  unfold ntV ntB at K52
  simp only [if_pos q1, if_neg l0] at K52
  simp only [lV, lB, cn, List.cons_ne_nil, if_false, List.length_singleton] at K60
  by_cases q4 : (ntD l).length ≤ 12
  · simp only [if_pos q4] at K61
    simp [ef12, aw, r, q0, q0i, q0j, K41, K41b, K59, K53, K54, K60, K61, K47, q1, q2, hnil, fillL, Nat.add_assoc]
  · simp only [if_neg q4] at K61
    have q4i : (12 : Int) < (ntD l).length := by omega
    simp [ef12, aw, r, q0, q0i, q0j, K41, K41b, K59, K52, K53, K54, K60, K61, K47, q1, q2, q4, q4i, hnil, fillL, Nat.add_assoc]
end U
end Go.Abs
