/- Thinning: the reference's. -/
import Derived.Test.YtfbelnhibipndaaAbsUN2
set_option linter.unusedSimpArgs false
set_option linter.unusedVariables false
namespace Go.Abs
namespace U
set_option maxRecDepth 100000
set_option maxHeartbeats 0
set_option linter.unusedSimpArgs false
/-- What is left, from the last test on. -/
def thT (l : List P4) : Nat → List Int → List Int
  | 0, T => T
  | k + 1, T => if thin l (iL k ++ T) = true then thT l k T else thT l k ((k : Int) :: T)
theorem iL_snoc (k : Nat) (T : List Int) : iL (k + 1) ++ T = iL k ++ (k : Int) :: T := by rw [iL, List.append_assoc]; rfl
theorem SOk_less {l : List P4} {k : Nat} {T : List Int} (o : SOk l (iL (k + 1) ++ T)) : SOk l (iL k ++ T) := by
  rw [iL_snoc] at o
  have s : (iL k ++ T).Sublist (iL k ++ (k : Int) :: T) := List.Sublist.append_left (List.sublist_cons_self _ _) _
  exact ⟨fun x hx => o.rng x (s.subset hx), o.asc.sublist s⟩
theorem app_seg {bytes b b2 n m o : Nat} {H : Heap} {X Y Z : List Int} {rw : Bool} (hb : H.get b = some ⟨cI X, true⟩) (hn : n = X.length) (hb2 : H.get b2 = some ⟨cI Y, rw⟩) (hm : m ≠ 0) (hZ : (Y.drop o).take m = Z) (hl : o + m ≤ Y.length)
    (hby : (n + m) * bytes ≤ 140737488355328) (hmx : n + m ≤ 9223372036854775807) :
    E.append H 1 bytes (.slice (some ⟨b, 0, none⟩) n 1) (.slice (some ⟨b2, o, none⟩) m 1) = some ⟨.slice (some ⟨H.length, 0, none⟩) (n + m) 1, [b, b2], .move b ⟨cI (X ++ Z), true⟩⟩ := by
  have hmx' : n + m ≤ maxLen := by unfold maxLen; exact hmx
  have hd : ((cI Y).drop o).take m = cI Z := by rw [← hZ]; unfold cI; rw [List.map_take, List.map_drop]
  have l1 : o + m * 1 ≤ (cI Y).length := by rw [cI_len]; omega
  have one := one_cI Z
  have l2 : 0 + n * 1 = (cI X).length := by rw [cI_len]; omega
  unfold E.append E.added
  rw [Nat.mul_one] at l1 l2
  simp only [hb, hb2, hm, if_false, Nat.mul_one, hd, one]
  simp only [if_true, if_pos l1, one, l2, hby, hmx', and_self, Nat.one_ne_zero, if_false]
  simp [hby, hmx', cI, hn, hm]
theorem app_seg0 {bytes b b2 n o : Nat} {H : Heap} : E.append H 1 bytes (.slice (some ⟨b, 0, none⟩) n 1) (.slice (some ⟨b2, o, none⟩) 0 1) = some ⟨.slice (some ⟨b, 0, none⟩) n 1, [], .none⟩ := by
  simp [E.append, E.added]
theorem drop_iL (k : Nat) (T : List Int) : (iL (k + 1) ++ T).drop (k + 1) = T := by
  have := iL_len (k + 1)
  rw [List.drop_append_of_le_length (by omega), List.drop_of_length_le (by omega)]; rfl
theorem take_iL (k : Nat) (T : List Int) : (iL (k + 1) ++ T).take k = iL k := by
  have := iL_len k
  rw [iL_snoc, List.take_append_of_le_length (by omega), List.take_of_length_le (by omega)]
theorem ntD_nil : ntD [] = [] := by
  refine List.eq_nil_of_length_eq_zero ?_
  have := dd_len (ntS []) (ntS []).length
  have : (ntS []).length = 0 := ntS_len []
  unfold ntD; omega
theorem ntD_ne0 {l : List P4} (h : l.length ≠ 0) : ntD l ≠ [] := fun y => by
  have m : (at4 l 0).1 ∈ ntD l := dd_mem _ (Nat.le_refl _) (by rw [List.take_length]; exact mem_ntS.2 ((mem_nts _).2 ⟨0, by omega, .inl rfl⟩))
  rw [y] at m; cases m
theorem thin_nil {l : List P4} (h : l.length ≠ 0) : thin l [] = false := by
  unfold thin
  have : ¬ ntD (ofA l []) = ntD l := fun e => ntD_ne0 h (e.symm.trans ntD_nil)
  rw [decide_eq_false this, Bool.and_false]
theorem c63 {d lim : Nat} {h : Heap} {v : Value} {l : List P4} (s : Sl4 h v l) (O : TOk l) :
    E.call (d + 4) lim 63 [v] h = some (if l.length = 0 then .slice none 0 0 else vS h.length (thT l l.length []).length, h ++ if l.length = 0 then [] else [some ⟨cI (thT l l.length []), true⟩]) := by
  have r := s.rules2
  have ol := O.len
  obtain ⟨n, hn⟩ : ∃ n, n = l.length := ⟨_, rfl⟩
  refine call_pure fn63 rfl (by simp [ef63]) ?_
  simp [ef63]
  refine wpC_loop (fun q st => ∃ i : Nat, q = l.length - i ∧ i ≤ l.length ∧ st = ⟨[(0, v), (3, lV h.length (iL i)), (4, i64 (i : Int))], h.freeze ++ lB (iL i)⟩) l.length (by show l.length < 2 ^ 64; omega) ?_ ?_
  · simp [St.tidy, r]
    exact ⟨0, by omega, by omega, ⟨by simp [iL, lV], rfl⟩, by simp [iL, lB]⟩
  rintro q hq _ ⟨i, rfl, hi, rfl⟩
  by_cases hlt : i < l.length
  · have hlti : (i : Int) < l.length := by omega
    have w1' := w1 (i := i) (by omega)
    have sl := iL_len i
    have sl1 := iL_len (i + 1)
    have hsn : cI (iL i) ++ [i64 (i : Int)] = cI (iL (i + 1)) := by simp [iL, cI]
    have ne1 : ¬ iL (i + 1) = [] := fun z => by rw [z] at sl1; cases sl1
    have one := one_cI (iL i)
    have cp := cI_plain (iL (i + 1))
    have cl := cI_len (iL i)
    rcases Nat.eq_zero_or_pos i with z0 | z0
    · subst z0
      rw [show iL 0 = [] from rfl] at hsn ⊢
      rw [show cI [] = [] from rfl, List.nil_append] at hsn
      simp [-collect_own1, lV, lB, hlt, fillL, zeros, E.append, E.added, w1', St.tidy, collect_box, s.own, r]
      exact ⟨by decide, l.length - 1, by omega, 1, by omega, by omega, ⟨by rw [if_neg ne1, sl1], rfl⟩, by rw [if_neg ne1]; exact congrArg (fun c => [some (Blk.mk c true)]) hsn⟩
    · have ne : ¬ iL i = [] := fun z => by rw [z] at sl; simp at sl; omega
      simp [-collect_own1, lV, lB, ne, hlt, hlti, Nat.not_le.2 hlt, sl, fillL, zeros, E.append, E.added, hsn, cp, cl, w1', St.tidy, collect_box, s.own, r]
      exact ⟨⟨by omega, by unfold maxLen; omega⟩, l.length - (i + 1), by omega, i + 1, by omega, by omega, ⟨by rw [if_neg ne1, sl1], by omega⟩, by rw [if_neg ne1]⟩
  obtain rfl : i = l.length := by omega
  have sl := iL_len l.length
  have wm : IntKind.wrap .i64 ((l.length : Int) - 1) = (l.length : Int) - 1 := wrap_eq (by omega) (by omega)
  by_cases n0 : l.length = 0
  · have en : iL l.length = [] := by rw [n0]; rfl
    have ln : l = [] := List.eq_nil_of_length_eq_zero n0
    have wmm : IntKind.wrap .i64 (-1) = -1 := wrap_eq (by omega) (by omega)
    simp [-collect_own1, n0, wmm, iL, lV, lB, r]
    rw [wpC_unroll, wpI_step (by simp [E_fuel'])]
    simp [-collect_own1, St.tidy, collect_box, s.own, r, ln]
  have lne : ¬ l = [] := fun z => n0 (by rw [z]; rfl)
  have nne : ¬ iL l.length = [] := fun z => by rw [z] at sl; exact n0 sl.symm
  generalize hR : thT l l.length [] = R
  have cpL := cI_plain (iL l.length)
  simp [-collect_own1, n0, nne, lV, lB, wm, sl, r]
  refine wpC_loop (fun q st => ∃ (k : Nat) (T S : List Int) (x : Int), q = k ∧ k ≤ l.length ∧ S = iL k ++ T ∧ x = (k : Int) - 1 ∧ SOk l S ∧ thT l k T = R ∧ st = ⟨[(0, v), (3, vS h.length S.length), (5, i64 x)], h.freeze ++ [some ⟨cI S, true⟩]⟩) l.length (by show l.length < 2 ^ 64; omega) ?_ ?_
  · simp [-collect_own1, cpL, St.tidy, collect_box, s.own, r]
    exact ⟨[], by rw [List.append_nil]; exact SOk.iL l, hR, by simp [sl], by simp⟩
  · rintro k hq _ ⟨k', T, S, x, hkk, hk, hS, hx, hO, hc, rfl⟩
    subst hkk
    have cpS := cI_plain S
    rcases k with _ | k
    · have xm : x < 0 := by omega
      simp [thT] at hc
      simp [iL] at hS
      subst hS hc
      simp [Int.not_le.2 xm, xm, cpS, lne]
    · obtain rfl : x = (k : Int) := by omega
      have xp : 0 ≤ (k : Int) := by omega
      have Ol := O.sub (SOk_less (hS ▸ hO))
      have OL := SOk_less (hS ▸ hO)
      have Sl' := hO.len
      have slen : S.length = k + 1 + T.length := by rw [hS, List.length_append, iL_len]
      have w1' := w1 (i := k) (by omega)
      have wx : IntKind.wrap .i64 ((k : Int) - 1) = (k : Int) - 1 := wrap_eq (by omega) (by omega)
      have hT := drop_iL k T
      have hI := take_iL k T
      rw [← hS] at hT hI
      unfold thT at hc
      obtain ⟨W, hW⟩ : ∃ W, W = iL k ++ T := ⟨_, rfl⟩
      rw [← hW] at hc OL Ol
      have wl : W.length = k + T.length := by rw [hW, List.length_append, iL_len]
      have sub : S.length - (k + 1) = T.length := by omega
      have le1 : k + 1 ≤ S.length := by omega
      have le0 : k ≤ S.length := by omega
      have tn : ((k : Int) + 1).toNat = k + 1 := by omega
      have hh : (0 : Int) ≤ (k : Int) + 1 := by omega
      have lW : (ofA l W).length = W.length := ofK_len l W _
      have cpW := c4_plain (ofA l W)
      have cpw := cI_plain W
      have nl : ntD l ≠ [] := ntD_ne0 n0
      have k97 := fun (L : Heap) (b' n' lim : Nat) (hg : Heap.get (h.freeze ++ L) b' = some ⟨cI W, true⟩) (e : n' = W.length) => c97 (d := d + 2) (lim := lim) ((Sl_freeze.2 s).app L) (SlI'_own hg e) (by omega) (by omega) OL.at
      have k56 := fun (L : Heap) lim => c56 (d := d + 1) (lim := lim) ((Sl_freeze.2 s).app L) (by omega)
      rw [← ntD_rn O] at k56
      have so := fun (L : Heap) (b' n' : Nat) (hg : Heap.get (h.freeze ++ L) b' = some ⟨cS enc4 (ofA l W), true⟩) (hn : n' = (ofA l W).length) => Sl_own (f := enc4) (es := 4) (fun _ => rfl) hg hn
      have k57o := fun (L : Heap) (b' n' lim : Nat) (hg : Heap.get (h.freeze ++ L) b' = some ⟨cS enc4 (ofA l W), true⟩) (hn : n' = (ofA l W).length) => c57 (d := d) (lim := lim) (so L b' n' hg hn) (by omega)
      have k56o := fun (L : Heap) (b' n' lim : Nat) (hg : Heap.get (h.freeze ++ L) b' = some ⟨cS enc4 (ofA l W), true⟩) (hn : n' = (ofA l W).length) => c56 (d := d + 1) (lim := lim) (so L b' n' hg hn) (by omega)
      rw [← ntD_rn Ol] at k57o k56o
      have dl : (ntD l).length ≤ 88 := by rw [ntD_rn O]; exact rn_len l 88
      have dw : (ntD (ofA l W)).length ≤ 88 := by rw [ntD_rn Ol]; exact rn_len _ 88
      have k47 := fun (L : Heap) (b1 b2 n1 n2 lim : Nat) (g1 : Heap.get (h.freeze ++ L) b1 = some ⟨cI (ntD (ofA l W)), true⟩) (e1 : n1 = (ntD (ofA l W)).length) (g2 : Heap.get (h.freeze ++ L) b2 = some ⟨cI (ntD l), true⟩) (e2 : n2 = (ntD l).length) => c47 (d := d + 2) (lim := lim) (SlI'_own g1 e1) (SlI'_own g2 e2) (by omega) (by omega)
      by_cases z0 : W = []
      · have kT : k = 0 ∧ T = [] := by rw [z0] at hW; have := congrArg List.length hW; rw [List.length_append, iL_len] at this; simp at this; exact ⟨by omega, List.eq_nil_of_length_eq_zero (by omega)⟩
        obtain ⟨rfl, rfl⟩ := kT
        have w11 : IntKind.wrap .i64 1 = 1 := wrap_eq (by omega) (by omega)
        have wmm : IntKind.wrap .i64 (-1) = -1 := wrap_eq (by omega) (by omega)
        have sub0 : S.length - 1 = 0 := by simpa using sub
        have le10 : 1 ≤ S.length := by omega
        have A0 := fun (bytes b b2 n o : Nat) (H : Heap) => app_seg0 (bytes := bytes) (b := b) (b2 := b2) (n := n) (o := o) (H := H)
        subst z0
        have e0 : ofA l [] = [] := rfl
        have k97' := fun (L : Heap) (b' lim : Nat) (hg : Heap.get (h.freeze ++ L) b' = some ⟨[], true⟩) => k97 L b' 0 lim hg rfl
        simp only [e0, lV4, lB4, if_true, List.append_nil] at k97'
        have nz : Sl4 h (.slice none 0 0) [] := ⟨rfl, rfl, fun h => absurd rfl h, .inl rfl, fun k hk => absurd hk (Nat.not_lt_zero k)⟩
        have nzi : SlI' h (.slice none 0 0) [] := ⟨rfl, rfl, fun h => absurd rfl h, .inl rfl, fun k hk => absurd hk (Nat.not_lt_zero k)⟩
        have ON : TOk [] := e0 ▸ Ol
        have k57n := fun (L : Heap) lim => c57 (d := d) (lim := lim) ((Sl_freeze.2 nz).app L) (by decide)
        have k56n := fun (L : Heap) lim => c56 (d := d + 1) (lim := lim) ((Sl_freeze.2 nz).app L) (by decide)
        rw [← ntD_rn ON] at k57n k56n
        rw [ntD_nil] at k57n k56n
        have k47n := fun (L : Heap) (b2 n2 lim : Nat) (g2 : Heap.get (h.freeze ++ L) b2 = some ⟨cI (ntD l), true⟩) (e2 : n2 = (ntD l).length) => c47 (d := d + 2) (lim := lim) ((Sl_freeze.2 nzi).app L) (SlI'_own g2 e2) (by decide) (by omega)
        have t0 : tw1 (sgA []) [] 0 = none := tw1_ge (by decide)
        have hS2 : S = iL 0 ++ [((0 : Nat) : Int)] := hS
        rw [thin_nil n0] at hc
        simp only [lV, lB, if_neg nl] at k56
        simp only [t0, twV, lV, lB, if_true, List.append_nil] at k57n k56n
        have nl' : ¬ [] = ntD l := fun y => nl y.symm
        simp [-collect_own1, xp, fillL, zeros, E.bound, A0, w11, wmm, sub0, le10, k97', k57n, k56n, k56, k47n, nl', Nat.add_assoc, wx, St.tidy, collect_box, s.own, r, cpw, cpS]
        exact ⟨[0], hS2 ▸ hO, by simpa using hc, by rw [hS2, List.length_append]; rfl, by rw [hS2]; rfl⟩
      have wp : W.length ≠ 0 := fun y => z0 (List.eq_nil_of_length_eq_zero y)
      have nW : ¬ ofA l W = [] := fun y => by rw [y] at lW; exact wp lW.symm
      have nW' : ntD (ofA l W) ≠ [] := ntD_ne0 (by omega)
      simp only [lV4, lB4, if_neg nW] at k97
      simp only [lV, lB, if_neg nW', if_neg nl] at k56o k56
      unfold thin at hc
      have fin : ∀ b : Bool, ((tw1 (sgA (ofA l W)) (ntD (ofA l W)) 0).isNone && decide (ntD (ofA l W) = ntD l)) = b → b = b := fun _ _ => rfl
      have A0 := fun (bytes b b2 n o : Nat) (H : Heap) => app_seg0 (bytes := bytes) (b := b) (b2 := b2) (n := n) (o := o) (H := H)
      have hS2 : S = iL k ++ (k : Int) :: T := hS.trans (iL_snoc k T)
      by_cases zk : k = 0
      · subst zk
        have tl : T.length ≠ 0 := by omega
        have eW : W = T := by rw [hW]; rfl
        have w11 : IntKind.wrap .i64 1 = 1 := wrap_eq (by omega) (by omega)
        have wmm : IntKind.wrap .i64 (-1) = -1 := wrap_eq (by omega) (by omega)
        have sub0 : S.length - 1 = T.length := by omega
        have le10 : 1 ≤ S.length := by omega
        have A2 := app_seg (bytes := 8) (b := h.length + 1) (b2 := h.length) (n := 0) (m := T.length) (o := 1) (H := h.freeze ++ [some ⟨cI S, true⟩, some ⟨[], true⟩]) (X := []) (Y := S) (Z := T) (rw := true) (by simp; rfl) rfl (by simp) tl (by rw [hT, List.take_length]) (by omega) (by omega) (by omega)
        rw [List.nil_append] at A2
        subst eW
        rcases hT2 : tw1 (sgA (ofA l W)) (ntD (ofA l W)) 0 with _ | ⟨x, y⟩
        · simp only [hT2, twV] at k57o
          by_cases qq : ntD (ofA l W) = ntD l
          · rw [if_pos (by rw [hT2, decide_eq_true qq]; rfl)] at hc
            simp [-collect_own1, xp, fillL, zeros, E.bound, A0, A2, w11, wmm, sub0, le10, k97, k57o, k56, k56o, k47, qq, lW, Nat.add_assoc, wx, St.tidy, collect_box, s.own, r, cpw, cpS, cpW]
            exact ⟨W, hW ▸ OL, hc, by simp [iL], by simp [iL]⟩
          · rw [if_neg (by rw [decide_eq_false qq, Bool.and_false]; simp)] at hc
            simp [-collect_own1, xp, fillL, zeros, E.bound, A0, A2, w11, wmm, sub0, le10, k97, k57o, k56, k56o, k47, qq, lW, Nat.add_assoc, wx, St.tidy, collect_box, s.own, r, cpw, cpS, cpW]
            exact ⟨(0 : Int) :: W, hS2 ▸ hO, hc, by rw [hS2, List.length_append]; rfl, by rw [hS2]; rfl⟩
        · simp only [hT2, twV] at k57o
          rw [if_neg (by rw [hT2]; simp)] at hc
          simp [-collect_own1, xp, fillL, zeros, E.bound, A0, A2, w11, wmm, sub0, le10, k97, k57o, k56, k56o, k47, lW, Nat.add_assoc, wx, St.tidy, collect_box, s.own, r, cpw, cpS, cpW]
          exact ⟨(0 : Int) :: W, hS2 ▸ hO, hc, by rw [hS2, List.length_append]; rfl, by rw [hS2]; rfl⟩
      have A1 := app_seg (bytes := 8) (b := h.length + 1) (b2 := h.length) (n := 0) (m := k) (o := 0) (H := h.freeze ++ [some ⟨cI S, true⟩, some ⟨[], true⟩]) (X := []) (Y := S) (Z := iL k) (rw := true) (by simp; rfl) rfl (by simp) zk (by simpa using hI) (by omega) (by omega) (by omega)
      by_cases zT : T = []
      · subst zT
        have eW : W = iL k := by rw [hW, List.append_nil]
        have sub0 : S.length - (k + 1) = 0 := by simpa using sub
        rw [List.nil_append, ← eW] at A1
        have wl0 : W.length = k := by simpa using wl
        rcases hT2 : tw1 (sgA (ofA l W)) (ntD (ofA l W)) 0 with _ | ⟨x, y⟩
        · simp only [hT2, twV] at k57o
          by_cases qq : ntD (ofA l W) = ntD l
          · rw [if_pos (by rw [hT2, decide_eq_true qq]; rfl)] at hc
            simp [-collect_own1, xp, fillL, zeros, E.bound, A0, A1, sub0, le1, le0, w1', tn, hh, wl0, k97, k57o, k56, k56o, k47, qq, lW, wl, Nat.add_assoc, wx, St.tidy, collect_box, s.own, r, cpw, cpS, cpW]
            exact ⟨k, by omega, by omega, [], hW ▸ OL, hc, ⟨by rw [iL_len]; rfl, rfl⟩, by rw [hW]⟩
          · rw [if_neg (by rw [decide_eq_false qq, Bool.and_false]; simp)] at hc
            simp [-collect_own1, xp, fillL, zeros, E.bound, A0, A1, sub0, le1, le0, w1', tn, hh, wl0, k97, k57o, k56, k56o, k47, qq, lW, wl, Nat.add_assoc, wx, St.tidy, collect_box, s.own, r, cpw, cpS, cpW]
            exact ⟨k, by omega, by omega, (k : Int) :: [], hS2 ▸ hO, hc, ⟨by rw [hS2, List.length_append], rfl⟩, by rw [hS2]⟩
        · simp only [hT2, twV] at k57o
          rw [if_neg (by rw [hT2]; simp)] at hc
          simp [-collect_own1, xp, fillL, zeros, E.bound, A0, A1, sub0, le1, le0, w1', tn, hh, wl0, k97, k57o, k56, k56o, k47, lW, wl, Nat.add_assoc, wx, St.tidy, collect_box, s.own, r, cpw, cpS, cpW]
          exact ⟨k, by omega, by omega, (k : Int) :: [], hS2 ▸ hO, hc, ⟨by rw [hS2, List.length_append], rfl⟩, by rw [hS2]⟩
      have tl : T.length ≠ 0 := fun y => zT (List.eq_nil_of_length_eq_zero y)
      have A2 := app_seg (bytes := 8) (b := h.length + 2) (b2 := h.length) (n := k) (m := T.length) (o := k + 1) (H := h.freeze ++ [some ⟨cI S, true⟩, none, some ⟨cI (iL k), true⟩]) (X := iL k) (Y := S) (Z := T) (rw := true) (by simp) (iL_len k).symm (by simp) tl (by rw [hT, List.take_length]) (by omega) (by omega) (by omega)
      rw [← hW] at A2
      rcases hT2 : tw1 (sgA (ofA l W)) (ntD (ofA l W)) 0 with _ | ⟨x, y⟩
      · simp only [hT2, twV] at k57o
        by_cases qq : ntD (ofA l W) = ntD l
        · rw [if_pos (by rw [hT2, decide_eq_true qq]; rfl)] at hc
          simp [-collect_own1, xp, fillL, zeros, E.bound, A1, A2, sub, le1, le0, w1', tn, hh, k97, k57o, k56, k56o, k47, qq, lW, wl, Nat.add_assoc, wx, St.tidy, collect_box, s.own, r, cpw, cpS, cpW]
          exact ⟨k, by omega, by omega, T, hW ▸ OL, hc, ⟨by rw [iL_len], rfl⟩, by rw [hW]⟩
        · rw [if_neg (by rw [decide_eq_false qq, Bool.and_false]; simp)] at hc
          simp [-collect_own1, xp, fillL, zeros, E.bound, A1, A2, sub, le1, le0, w1', tn, hh, k97, k57o, k56, k56o, k47, qq, lW, wl, Nat.add_assoc, wx, St.tidy, collect_box, s.own, r, cpw, cpS, cpW]
          exact ⟨k, by omega, by omega, (k : Int) :: T, hS2 ▸ hO, hc, ⟨by rw [hS2, List.length_append], rfl⟩, by rw [hS2]⟩
      · simp only [hT2, twV] at k57o
        rw [if_neg (by rw [hT2]; simp)] at hc
        simp [-collect_own1, xp, fillL, zeros, E.bound, A1, A2, sub, le1, le0, w1', tn, hh, k97, k57o, k56, k56o, k47, lW, wl, Nat.add_assoc, wx, St.tidy, collect_box, s.own, r, cpw, cpS, cpW]
        exact ⟨k, by omega, by omega, (k : Int) :: T, hS2 ▸ hO, hc, ⟨by rw [hS2, List.length_append], rfl⟩, by rw [hS2]⟩
end U
end Go.Abs
