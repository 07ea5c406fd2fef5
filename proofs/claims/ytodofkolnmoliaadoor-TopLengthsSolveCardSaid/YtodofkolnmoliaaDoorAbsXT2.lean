/- The law TopLengthsSolve. -/
import Derived.Test.YtodofkolnmoliaaDoorAbsXT1
import Derived.Test.YtodofkolnmoliaaDoorAbsXZ4
set_option linter.unusedSimpArgs false
set_option linter.unusedVariables false
namespace Go.Abs
namespace X
set_option maxRecDepth 100000
set_option maxHeartbeats 0
/-- Which lengths have a bound that is reached. -/
def tgt (L : List Bd) (A : List Int) (n : Nat) : Nat → List Bool
  | 0 => List.replicate n false
  | i + 1 => match L[i]? with
    | some b => if b.2.1 < n ∧ gx A b.2.1 - gx A b.1 = b.2.2 then (tgt L A n i).set b.2.1 true else tgt L A n i
    | none => tgt L A n i
theorem tgt_len (L : List Bd) (A : List Int) (n : Nat) : ∀ i, (tgt L A n i).length = n
  | 0 => by simp [tgt]
  | i + 1 => by
    have ih := tgt_len L A n i
    simp only [tgt]
    split
    · split
      · simp [ih]
      · exact ih
    · exact ih
theorem tgt_mono {L : List Bd} {A : List Int} {n i j : Nat} (h : (tgt L A n i)[j]? = some true) : ∀ k, (tgt L A n (i + k))[j]? = some true
  | 0 => h
  | k + 1 => by
    have ih := tgt_mono h k
    rw [show i + (k + 1) = i + k + 1 by omega]
    simp only [tgt]
    split
    · rename_i b _
      split
      · rw [List.getElem?_set]
        split
        · have := (List.getElem?_eq_some_iff.1 ih).1
          rename_i e
          subst e
          simp only [this, if_true]
        · exact ih
      · exact ih
    · exact ih
theorem tgt_hit {L : List Bd} {A : List Int} {n : Nat} {b : Bd} (hb : b ∈ L) (h1 : b.2.1 < n) (h2 : gx A b.2.1 - gx A b.1 = b.2.2) : (tgt L A n L.length)[b.2.1]? = some true := by
  obtain ⟨m, hm, e⟩ := List.getElem_of_mem hb
  have s : (tgt L A n (m + 1))[b.2.1]? = some true := by
    simp only [tgt]
    rw [List.getElem?_eq_getElem hm, e]
    simp only
    rw [if_pos ⟨h1, h2⟩, List.getElem?_set_self (by rw [tgt_len]; exact h1)]
  have := tgt_mono s (L.length - (m + 1))
  rwa [show m + 1 + (L.length - (m + 1)) = L.length by omega] at this
theorem all_tight {l : List XR} {dl dh : Int} (O : LenOk l dl dh) {j : Nat} (hj : j < l.length) : (tgt (sysL l dl dh) (smo l dl dh ++ [0]) l.length (sysL l dl dh).length)[j]? = some true := by
  obtain ⟨S, _⟩ := smo_sm O
  have len := S.len
  have e1 : ∀ i, i < l.length → gx (smo l dl dh ++ [0]) i = gx (smo l dl dh) i := fun i hi => by
    simp only [gx, List.getD_eq_getElem?_getD]; rw [List.getElem?_append_left (by omega)]
  have e2 : gx (smo l dl dh ++ [0]) l.length = 0 := by
    simp only [gx, List.getD_eq_getElem?_getD]; rw [List.getElem?_append_right (by omega), len]; simp
  rcases S.tight j hj with t | ⟨h0, t⟩ | ⟨h1, t⟩
  · refine tgt_hit (b := (l.length, j, (atR l j).2)) (List.mem_append.2 (.inl (mem_sysA.2 ⟨j, hj, .inl rfl⟩))) hj ?_
    simp only; rw [e1 j hj, e2, t]; omega
  · refine tgt_hit (b := (j - 1, j, -dl)) (List.mem_append.2 (.inr (mem_sysB.2 ⟨j - 1, by omega, .inl (by rw [show j - 1 + 1 = j by omega])⟩))) hj ?_
    simp only; rw [e1 j hj, e1 (j - 1) (by omega), t]; omega
  · refine tgt_hit (b := (j + 1, j, dh)) (List.mem_append.2 (.inr (mem_sysB.2 ⟨j, by omega, .inr rfl⟩))) hj ?_
    simp only; rw [e1 j hj, e1 (j + 1) h1, t]; omega
def cT (l : List Bool) : List Value := l.map (.bool ·)
theorem cT_len (l : List Bool) : (cT l).length = l.length := by simp [cT]
theorem cT_set (l : List Bool) (i : Nat) (x : Bool) : (cT l).set i (.bool x) = cT (l.set i x) := by simp [cT, List.map_set]
theorem cT_plain (l : List Bool) : (cT l).all plainV = true := by simp [cT, List.all_map]
theorem cT_zero (n : Nat) : zeros [Value.bool false] n = cT (List.replicate n false) := by
  unfold zeros cT; simp
theorem gx_app {o : List Int} {c : Int} (hc : -30000000 ≤ c ∧ c ≤ 300000) (h : ∀ i, i < o.length → -30000000 ≤ gx o i ∧ gx o i ≤ 300000) (i : Nat) (hi : i < (o ++ [c]).length) : -30000000 ≤ gx (o ++ [c]) i ∧ gx (o ++ [c]) i ≤ 300000 := by
  simp at hi
  rcases Nat.lt_or_ge i o.length with z | z
  · have : gx (o ++ [c]) i = gx o i := by simp only [gx, List.getD_eq_getElem?_getD]; rw [List.getElem?_append_left z]
    rw [this]; exact h i z
  · obtain rfl : i = o.length := by omega
    have : gx (o ++ [c]) o.length = c := by simp [gx, List.getD_eq_getElem?_getD]
    rw [this]; exact hc
theorem c3 {d lim : Nat} {h : Heap} {v : Value} {l : List XR} {dl dh : Int} (sp : Pr h) (s : SlR h v l) : E.call (d + 9) lim 3 [v, rgV dl dh] h = some (.bool true, h) := by
  have r := s.rules2
  have k12 := fun lim L => c12 (d := d) (lim := lim) ((Sl_freeze.2 sp).app L)
  have k13 := fun lim L => c13 (d := d + 6) (lim := lim) (dl := dl) (dh := dh) ((Sl_freeze.2 s).app L)
  have k18 := fun lim hh a b c => c18 (d := d + 7) (lim := lim) (h := hh) (a := a) (b := b) (c := c)
  refine call1 fn3 rfl (by simp [ef3]) ?_
  by_cases h12 : 12 < l.length
  · have i1 : (12 : Int) < l.length := by omega
    simp [ef3, k12, r, h12, i1, Int.not_le.2 i1, Nat.not_le.2 h12]
  have i1 : ¬ (12 : Int) < l.length := by omega
  have few : l.length ≤ 12 := by omega
  by_cases he' : lenE l dl dh ≠ 0
  · simp [ef3, k12, r, h12, i1, Int.not_lt.1 i1, few, k13, he']
  have he : lenE l dl dh = 0 := by omega
  have O := LenOk.of he
  have GS := good_sys O
  have sl := sysL_len l dl dh
  have cs := chkS_good GS (by omega) (by omega) (by rw [sl]; omega)
  have w1n' : IntKind.wrap .i64 ((l.length : Int) + 1) = (l.length : Int) + 1 := wrap_eq (by omega) (by omega)
  have k14 := fun lim L => c14 (d := d + 7) (lim := lim) (dl := dl) (dh := dh) ((Sl_freeze.2 s).app L)
  simp only [he, if_true] at k14
  rcases Nat.eq_zero_or_pos l.length with hz | hz
  · have el : l = [] := List.eq_nil_of_length_eq_zero hz
    subst el
    obtain ⟨X, ht⟩ : ∃ X, tryR (sysL [] dl dh) (([] : List XR).length + 1) (([] : List XR).length + 1) 0 = some X := ⟨_, rfl⟩
    have k15 := fun lim L => c15a (d := d + 4) (lim := lim) ((Sl_freeze.2 s).app L) he ht
    have k16 := fun lim hh => c16a (d := d + 5) (lim := lim) (SlB3_nil hh) GS (by simp) (by simp) (by simp [sysL, sysA, sysB]) cs ht
    have gn : ∀ hh : Heap, SlI' hh (.slice none 0 0) [] := fun hh => ⟨rfl, rfl, fun q => absurd rfl q, .inl rfl, fun k hk => by simp at hk⟩
    have k17 := fun lim hh => c17g (d := d + 7) (lim := lim) (gn hh) (by simp)
    simp [sysV, sysK, smoV, smoK] at k14 k15 k16 k17
    have i1 : IntKind.wrap .i64 (0 + 1) = 1 := rfl
    rcases s.low with rfl | ⟨bv, o', m', t', rfl, hbv⟩
    · simp [ef3, k12, k13, he, k14, k15, k16, k17, i1, E.append, E.added, zeros, fillL, maxLen, Value.oneCell', cI, Nat.add_assoc]
      rw [wpC_unroll, wpI_step (by simp [E_fuel'])]
      simp [St.tidy, Blk_addrs_nil, Blk_ren_nil, Nat.add_assoc]
      rw [wpC_unroll, wpI_step (by simp [E_fuel'])]
      simp [St.tidy, Blk_addrs_nil, Blk_ren_nil]
    · obtain rfl : m' = 0 := by
        have := s.len
        simpa using this
      simp [ef3, k12, k13, he, k14, k15, k16, k17, i1, E.append, E.added, zeros, fillL, maxLen, Value.oneCell', cI, Nat.add_assoc]
      rw [wpC_unroll, wpI_step (by simp [E_fuel'])]
      simp [St.tidy, Blk_addrs_nil, Blk_ren_nil, Nat.add_assoc, hbv]
      rw [wpC_unroll, wpI_step (by simp [E_fuel'])]
      simp [St.tidy, Blk_addrs_nil, Blk_ren_nil]
  have n0 : l.length ≠ 0 := by omega
  obtain ⟨bv, o', rfl⟩ : ∃ bv o', v = .slice (some ⟨bv, o', none⟩) l.length 2 := ⟨_, _, s.addr (by omega)⟩
  have hbv := s.lt (by omega)
  simp only [slB_some, slO_some] at r hbv
  have lsi : ¬ ((2 * (l.length : Int) + 2 * ((l.length - 1 : Nat) : Int)) > 200) := by omega
  have ls : ¬ (200 < 2 * l.length + 2 * (l.length - 1)) := by omega
  simp only [sysV, sysK, if_neg n0] at k14
  rcases ht : tryR (sysL l dl dh) (l.length + 1) (l.length + 1) 0 with _ | X
  · obtain ⟨t0, hlow⟩ : ∃ t0, (iterR (sysL l dl dh) (l.length + 1) (l.length + 1)).low = some t0 := by
      have := tryR_none (l.length + 1) 0 ht (l.length + 1) (by omega) (by omega)
      rcases q : (iterR (sysL l dl dh) (l.length + 1) (l.length + 1)).low with _ | t0
      · exact absurd q this
      · exact ⟨t0, rfl⟩
    obtain ⟨nv, hb, p, C⟩ := never GS (by omega) hlow
    rcases hit : iterR (sysL l dl dh) (l.length + 1) (l.length + 1) with ⟨x0, bb, lw⟩
    rw [hit] at hlow hb C
    simp only at hlow hb C
    subst hlow
    have k15 := fun lim L => c15b (d := d + 4) (lim := lim) ((Sl_freeze.2 s).app L) he ht hit hb C n0
    have k16 := fun lim T => c16b (d := d + 5) (lim := lim) (ownB (h := h) (L := sysL l dl dh) [bP dl dh, some ⟨cB ((sysL l dl dh).map iB), true⟩, T] (k := 1) rfl sl.symm) GS (by omega) (by omega) (by rw [sl]; omega) cs ht hit hb C
    generalize cI (cycI (sysL l dl dh) bb (back (sysL l dl dh) bb t0 (l.length + 1)) p).reverse = K at *
    simp at k16
    simp [ef3, k12, r, h12, i1, Int.not_lt.1 i1, few, k13, he, k14, k15, k16, w1n', ls]
    omega
  · have ko := keep_pass O (tryR_keep GS _ _ _ ht)
    have KP := pass_keep O ko
    have k15 := fun lim L => c15a (d := d + 4) (lim := lim) ((Sl_freeze.2 s).app L) he ht
    have k16 := fun lim T => c16a (d := d + 5) (lim := lim) (ownB (h := h) (L := sysL l dl dh) [bP dl dh, some ⟨cB ((sysL l dl dh).map iB), true⟩, T] (k := 1) rfl sl.symm) GS (by omega) (by omega) (by rw [sl]; omega) cs ht
    simp only [smoV, smoK, if_neg n0] at k15
    have lS : (smo l dl dh).length = l.length := (smo_sm O).1.len
    have at_ := fun {j} (hj : j < l.length) => all_tight O hj
    have SM := LI.rounds (dl := dl) (dh := dh) (o := hiL l) (H := fun i => (atR l i).2) O.d.2.1 (fun i hi => hiL_get (by simpa [hiL] using hi)) l.length
    rw [show (hiL l).length = l.length by simp [hiL]] at SM
    have bd0 : ∀ i, i < (smo l dl dh).length → -30000000 ≤ gx (smo l dl dh) i ∧ gx (smo l dl dh) i ≤ 300000 := fun i hi => SM.bd ⟨O.d.1, by have := O.d; omega⟩ ⟨by have := O.d; omega, O.d.2.2⟩ (fun i hi => by have := O.rng i hi; omega) (by omega) (by omega)
    have bd := gx_app (c := 0) (by omega) bd0
    have lA : (smo l dl dh ++ [0]).length = l.length + 1 := by simp [lS]
    have k17 := fun lim T => c17g (d := d + 7) (lim := lim) (ownI (h := h) (l := smo l dl dh) [bP dl dh, some ⟨cB ((sysL l dl dh).map iB), true⟩, some ⟨cI (smo l dl dh), true⟩, T] (k := 2) rfl lS.symm) (by omega)
    rw [lS] at k17
    have ca : cI (smo l dl dh) ++ [i64 0] = cI (smo l dl dh ++ [0]) := by simp [cI]
    have clen : (cI (smo l dl dh)).length = l.length := by simp [cI, lS]
    have mb : (l.length : Int) ≤ 140737488355328 := by omega
    have mb2 : l.length ≤ 9223372036854775807 := by omega
    have zz := cT_zero l.length
    simp at k16
    generalize hS : cI (smo l dl dh) = CS at *
    generalize hA : smo l dl dh ++ [0] = A at *
    have pA := cI_plain A
    have pS := cBi_plain (sysL l dl dh)
    have GR := GS.rng
    generalize hL : sysL l dl dh = L at *
    simp [ef3, k12, r, h12, i1, Int.not_lt.1 i1, few, k13, he, k14, k15, k16, k17, w1n', ls, lsi, E.append, E.added, zz, fillL, maxLen, Value.oneCell', clen, ca, mb, mb2]
    refine ⟨by omega, fun _ => ⟨⟨by omega, by omega⟩, by omega, ?_⟩⟩
    refine wpC_loop (fun q st => ∃ i : Nat, q = L.length - i ∧ i ≤ L.length ∧ st = ⟨[(0, .slice (some ⟨bv, o', none⟩) l.length 2), (5, .slice (some ⟨h.length, 0, none⟩) (2 * l.length + 2 * (l.length - 1)) 3), (13, .slice (some ⟨h.length + 1, 0, none⟩) (l.length + 1) 1), (14, .slice (some ⟨h.length + 2, 0, none⟩) l.length 1), (15, i64 (i : Int))],
      h.freeze ++ [some ⟨cB (L.map iB), true⟩, some ⟨cI A, true⟩, some ⟨cT (tgt L A l.length i), true⟩]⟩) L.length (by show L.length < 2 ^ 64; omega) ?_ ?_
    · have pT := cT_plain (List.replicate l.length false)
      simp [St.tidy, hbv, pA, pS, pT, Nat.add_assoc]
      exact ⟨0, by omega, by omega, rfl, rfl⟩
    · rintro q hq _ ⟨i, rfl, hi, rfl⟩
      have pT := cT_plain (tgt L A l.length i)
      have tl := tgt_len L A l.length i
      have ll : (cT (tgt L A l.length i)).length = l.length := by rw [cT_len, tl]
      have ml : (L.map iB).length = L.length := by simp
      by_cases hlt : i < L.length
      · have w1' := w1 (i := i) (by omega)
        simp only [W] at w1'
        have hm : i < (L.map iB).length := by omega
        have p := cB_part hm
        rw [atB_iB hlt] at p
        obtain ⟨g1, g2, g3, g4⟩ := GR i hlt
        have kp := keep_iff.1 KP i hlt
        have nx : tgt L A l.length (i + 1) = if L[i].2.1 < l.length ∧ gx A L[i].2.1 - gx A L[i].1 = L[i].2.2 then (tgt L A l.length i).set L[i].2.1 true else tgt L A l.length i := by
          simp only [tgt]; rw [List.getElem?_eq_getElem hlt]
        have pN := cT_plain (tgt L A l.length (i + 1))
        rw [nx] at pN
        have hli : (i : Int) < 2 * (l.length : Int) + 2 * ((l.length - 1 : Nat) : Int) := by omega
        have hln : i < 2 * l.length + 2 * (l.length - 1) := by omega
        have cm : (cB (L.map iB)).length = (2 * l.length + 2 * (l.length - 1)) * 3 := by rw [cBi_len, sl]
        have k3 : i * 3 + 3 ≤ (2 * l.length + 2 * (l.length - 1)) * 3 := by omega
        generalize L[i] = e at *
        obtain ⟨f, t, m⟩ := e
        simp only [iB] at p g1 g2 g3 g4 kp nx pN
        have cf := cI_gx (x := A) (v := f) (by omega)
        have ct := cI_gx (x := A) (v := t) (by omega)
        have cfv : ∀ hh, (cI A)[f]'hh = .int .i64 (gx A f) := fun hh => by have := List.getElem?_eq_getElem hh; rw [cf] at this; exact (Option.some.inj this).symm
        have ctv : ∀ hh, (cI A)[t]'hh = .int .i64 (gx A t) := fun hh => by have := List.getElem?_eq_getElem hh; rw [ct] at this; exact (Option.some.inj this).symm
        have bf := bd f (by omega)
        have bt := bd t (by omega)
        have wm : IntKind.wrap .i64 (gx A t - gx A f) = gx A t - gx A f := wrap_eq (by omega) (by omega)
        have f0 : (f : Int) < (l.length : Int) + 1 := by omega
        have t0 : (t : Int) < (l.length : Int) + 1 := by omega
        have wf : within (f : Int) 0 (l.length : Int) = true := by simp [within]; omega
        have wt : within (t : Int) 0 (l.length : Int) = true := by simp [within]; omega
        have clA : (cI A).length = l.length + 1 := by rw [cI_len, lA]
        have ng : ¬ m < gx A t - gx A f := by omega
        have kp2 : gx A t - gx A f ≤ m := by omega
        generalize hD : gx A t - gx A f = D at *
        by_cases q1 : t < l.length
        · have q1i : (t : Int) < l.length := by omega
          have t1 : t + 1 ≤ l.length := by omega
          by_cases q2 : D = m
          · rw [if_pos ⟨q1, q2⟩] at nx pN
            have st := cT_set (tgt L A l.length i) t true
            subst q2
            simp [hln, Nat.not_le.2 hln, hli, k3, cm, p, k18, wf, wt, f0, t0, g1, g2, cfv, ctv, clA, lA, hD, wm, q1, q1i, Nat.not_le.2 q1, t1, ll, st, w1', St.tidy, hbv, pA, pS, pN]
            exact ⟨L.length - (i + 1), by omega, i + 1, by omega, by omega, by omega, by rw [nx]⟩
          · rw [if_neg (fun z => q2 z.2)] at nx pN
            simp [hln, Nat.not_le.2 hln, hli, k3, cm, p, k18, wf, wt, f0, t0, g1, g2, cfv, ctv, clA, lA, hD, wm, ng, kp2, q1, q1i, Nat.not_le.2 q1, q2, w1', St.tidy, hbv, pA, pS, pN]
            exact ⟨L.length - (i + 1), by omega, i + 1, by omega, by omega, by omega, by rw [nx]⟩
        · have q1i : ¬ (t : Int) < l.length := by omega
          rw [if_neg (fun z => q1 z.1)] at nx pN
          simp [hln, Nat.not_le.2 hln, hli, k3, cm, p, k18, wf, wt, f0, t0, g1, g2, cfv, ctv, clA, lA, hD, wm, ng, kp2, q1, q1i, Nat.not_lt.1 q1, w1', St.tidy, hbv, pA, pS, pN]
          exact ⟨L.length - (i + 1), by omega, i + 1, by omega, by omega, by omega, by rw [nx]⟩
      · obtain rfl : i = L.length := by omega
        have hln : ¬ L.length < 2 * l.length + 2 * (l.length - 1) := by omega
        have hli : ¬ (L.length : Int) < 2 * (l.length : Int) + 2 * ((l.length - 1 : Nat) : Int) := by omega
        simp [hln, Nat.not_lt.1 hln, hli, Int.not_lt.1 hli]
        generalize tgt L A l.length L.length = T at *
        refine wpC_loop (fun q st => ∃ i : Nat, q = l.length - i ∧ i ≤ l.length ∧ st = ⟨[(14, .slice (some ⟨h.length, 0, none⟩) l.length 1), (17, i64 (i : Int))], h.freeze ++ [some ⟨cT T, true⟩]⟩) l.length (by show l.length < 2 ^ 64; omega) ?_ ?_
        · simp [St.tidy, pT]
          exact ⟨0, by omega, by omega, rfl⟩
        · rintro q hq _ ⟨i, rfl, hi, rfl⟩
          by_cases hlt : i < l.length
          · have w1' := w1 (i := i) (by omega)
            simp only [W] at w1'
            have hlti : (i : Int) < l.length := by omega
            have tv := at_ hlt
            have tvv : ∀ hh, (cT T)[i]'hh = .bool true := fun hh => by
              have e := List.getElem?_eq_getElem (show i < T.length by omega)
              rw [tv] at e
              simp [cT, ← Option.some.inj e]
            simp [hlt, Nat.not_le.2 hlt, hlti, tvv, ll, w1', St.tidy, pT]
            exact ⟨l.length - (i + 1), by omega, i + 1, by omega, by omega, by omega⟩
          · obtain rfl : i = l.length := by omega
            simp
end X
end Go.Abs
