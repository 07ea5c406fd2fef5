/- Chapter 2: the examples. -/
import Derived.Test.YtodofkolnmoliaaAbsVXM
import Derived.Test.YtodofkolnmoliaaAbsVYM
set_option linter.unusedSimpArgs false
set_option linter.unusedVariables false
/- Chapter 2: the examples. -/
namespace Go.Abs
namespace V
set_option maxRecDepth 100000
set_option maxHeartbeats 0
theorem steel_chk : chkW [steelW] = 0 := by
  have e : wErr [] steelW = 0 := by decide +kernel
  have l1 : ¬ 20 < ([steelW] : List Wi).length := by decide
  unfold chkW
  rw [if_neg l1, chkWL_lt (by decide)]
  rw [show ([steelW] : List Wi).take 0 = [] from rfl, show atW [steelW] 0 = steelW from rfl, if_pos e]
  exact chkWL_ge (by decide)
theorem steel_ok : chkD [steelW] plainS = 0 := by
  have e : sErr [steelW] plainS = 0 := by decide +kernel
  unfold chkD
  rw [if_pos steel_chk, e]
theorem steel_heard : heardE [steelW] plainS 440000 440000 = 0 := by
  unfold heardE
  rw [if_pos steel_ok]; decide
theorem steel_ten : tenL [steelW] plainS 440000 = 76389 ∧ tenH [steelW] plainS 440000 = 76390 := by decide +kernel
theorem steel_inh : inL [steelW] plainS 76390 = 793624 ∧ inH [steelW] plainS 76389 = 793636 := by decide +kernel
theorem steel_nms : Nms [steelW] := by
  intro i hi
  have : i = 0 := by simpa using hi
  subst this
  decide
def exR : List XR := [(1000, 2000), (1500, 1800)]
theorem ex_ok : lenE exR 0 100 = 0 := by
  have c : chkRL exR 0 = 0 := by
    rw [chkRL_lt (by decide), if_pos (by decide), chkRL_lt (by decide), if_pos (by decide), chkRL_ge (by decide)]
  unfold lenE
  rw [if_neg (by decide), if_pos c]
  decide
theorem ex_smo : smo exR 0 100 = [1900, 1800] := by decide +kernel
theorem ex_try : ∃ X, tryR (sysL exR 0 100) (exR.length + 1) (exR.length + 1) 0 = some X := by
  have : (tryR (sysL exR 0 100) (exR.length + 1) (exR.length + 1) 0).isSome = true := by decide +kernel
  exact Option.isSome_iff_exists.1 this
abbrev bA : Option Blk := some ⟨[i64 440000, i64 440000], true⟩
abbrev bS : Option Blk := some ⟨cS encW [steelW], true⟩
theorem c9 {d lim : Nat} {h : Heap} : E.call (d + 8) lim 9 [] h = some (.bool true, h) := by
  obtain ⟨X, hX⟩ := ex_try
  have g1 : Heap.get (h.freeze ++ [bA, bS]).freeze (h.length + 1) = some ⟨cS encW [steelW], false⟩ := hget_freeze (k := ⟨cS encW [steelW], true⟩) (by rw [hget_base (by simp)]; rfl)
  have g3 : ∀ T, Heap.get (h.freeze ++ [bA, bS, T, bS]).freeze (h.length + 3) = some ⟨cS encW [steelW], false⟩ := fun T => hget_freeze (k := ⟨cS encW [steelW], true⟩) (by rw [hget_base (by simp)]; rfl)
  have k15 := fun lim => c15 (d := d) (lim := lim) (s := plainS) (a := 440000) (b := 440000) (Sl_own (f := encW) (es := 4) (fun _ => rfl) g1 rfl) (by simp) steel_nms
  have k27 := fun lim T => c27 (d := d) (lim := lim) (s := plainS) (a := 440000) (b := 440000) (Sl_own (f := encW) (es := 4) (fun _ => rfl) (g3 T) rfl) (by simp) steel_nms
  obtain ⟨t1, t2⟩ := steel_ten
  obtain ⟨n1, n2⟩ := steel_inh
  have ie : inE [steelW] plainS 440000 = 0 := by simp [inE, t1]
  simp only [steel_heard, t1, t2, rgE, if_true, ie, n1, n2] at k15 k27
  have gR : ∀ T T' L, Heap.get (h.freeze ++ (bA :: bS :: T :: bS :: T' :: some ⟨cS encR exR, true⟩ :: L)) (h.length + 5) = some ⟨cS encR exR, true⟩ := fun T T' L => by rw [hget_base (by simp)]; rfl
  have k32 := fun lim T T' => c32a (d := d + 3) (lim := lim) (Sl_own (f := encR) (es := 2) (fun _ => rfl) (gR T T' []) rfl) ex_ok hX
  have er : cS encR exR = [i64 1000, i64 2000, i64 1500, i64 1800] := rfl
  have e2 : exR.length = 2 := rfl
  simp only [smoV, smoK, ex_smo, e2] at k32
  have gI : ∀ T T', Heap.get (h.freeze ++ [bA, bS, T, bS, T', some ⟨cS encR exR, true⟩, some ⟨cI [1900, 1800], true⟩, some ⟨cI [1900, 1800], true⟩]) (h.length + 6) = some ⟨cI [1900, 1800], true⟩ := fun T T' => by rw [hget_base (by simp)]; rfl
  have gJ : ∀ T T', Heap.get (h.freeze ++ [bA, bS, T, bS, T', some ⟨cS encR exR, true⟩, some ⟨cI [1900, 1800], true⟩, some ⟨cI [1900, 1800], true⟩]) (h.length + 7) = some ⟨cI [1900, 1800], true⟩ := fun T T' => by rw [hget_base (by simp)]; rfl
  have k37 := fun lim T T' => c37 (d := d + 6) (lim := lim) (SlI'_own (gI T T') rfl) (SlI'_own (gJ T T') rfl) (by simp)
  rw [er] at k32 k37
  simp [cI] at k15 k27 k32 k37
  refine call1 fn9 rfl (by simp [ef9]) ?_
  simp [ef9, c42, c43, k15, k27, k32, k37, cI, zeros]
end V
end Go.Abs
/- Chapter 2: the laws ScaleStrands, ScaleTensions, ScaleSounds. -/
namespace Go.Abs
namespace V
set_option maxRecDepth 100000
set_option maxHeartbeats 0
theorem copyAt {h : Heap} {l : List Wi} (A : List (Option Blk)) {k : Nat} (hk : A[k]? = some (some ⟨cS encW l, true⟩)) : SlW (h.freeze ++ A) (.slice (some ⟨h.length + k, 0, none⟩) l.length 4) l :=
  Sl_own (f := encW) (es := 4) (fun _ => rfl) (by rw [hget_base (by simp), hk]; rfl) rfl
abbrev bD (s : Sd) : Option Blk := some ⟨[i64 s.len, i64 s.core, i64 s.over, .string s.wire, .string s.wrap], true⟩
abbrev bC (l : List Wi) : Option Blk := some ⟨cS encW l, true⟩
abbrev bR (a b : Int) : Option Blk := some ⟨[i64 a, i64 b], true⟩
theorem c4 {d lim : Nat} {h : Heap} {v : Value} {l : List Wi} {s : Sd} (t : SlW h v l) : E.call (d + 9) lim 4 [v, sdV s] h = some (.bool true, h) := by
  have k11 := fun lim L => c11 (d := d + 7) (lim := lim) ((Sl_freeze.2 t).app L)
  refine call1 fn4 rfl (by simp [ef4]) ?_
  rcases hs : shortB l with _ | _
  · simp [ef4, c9, k11, hs]
  rcases hn : namedB s with _ | _
  · simp [ef4, c9, k11, hs, c12, hn]
  obtain ⟨hl, hnm⟩ := short_ok hs
  have hl' : l.length ≤ 1000 := by omega
  have k18 := fun lim L => c18 (d := d + 7) (lim := lim) ((Sl_freeze.2 t).app L) hl'
  have k18f := fun lim L => c18 (d := d + 7) (lim := lim) (Sl_freeze.2 ((Sl_freeze.2 t).app L)) hl'
  have k17 := fun lim => c17 (d := d + 3) (lim := lim) (s := s) (copyAt (h := h) (l := l) [bD s, bC l] (k := 1) rfl) hl' hnm
  have k14 := fun lim L => c14 (d := d + 4) (lim := lim) (s := s) ((Sl_freeze.2 t).app L) hl'
  have k19 := fun lim => c19 (d := d + 6) (lim := lim) (copyAt (h := h) (l := l) [bD s, bC l, bC l] (k := 2) rfl) hl' hnm
  have k20 := fun lim L => c20 (d := d + 5) (lim := lim) ((Sl_freeze.2 t).app L) hl'
  have k21 := fun lim => c21 (d := d + 4) (lim := lim) (s := s) (copyAt (h := h) (l := l) [bD s, bC l, bC l, bC l] (k := 3) rfl) hl' hnm
  by_cases he : chkD l s = 0
  · have k22 := fun lim L => c22 (d := d + 6) (lim := lim) ((Sl_freeze.2 t).app L) (SdOk.of he)
    simp [ef4, c9, k11, hs, c12, hn, k18, k18f, k17, k14, k19, k20, k21, he, k22]
  · simp [ef4, c9, k11, hs, c12, hn, k18, k18f, k17, k14, k19, k20, k21, he]
theorem c5 {d lim : Nat} {h : Heap} {v : Value} {l : List Wi} {s : Sd} {a b : Int} (t : SlW h v l) : E.call (d + 9) lim 5 [v, sdV s, rgV a b] h = some (.bool true, h) := by
  have k11 := fun lim L => c11 (d := d + 7) (lim := lim) ((Sl_freeze.2 t).app L)
  refine call1 fn5 rfl (by simp [ef5]) ?_
  rcases hs : shortB l with _ | _
  · simp [ef5, c9, k11, hs]
  rcases hn : namedB s with _ | _
  · simp [ef5, c9, k11, hs, c12, hn]
  obtain ⟨hl, hnm⟩ := short_ok hs
  have hl' : l.length ≤ 1000 := by omega
  have k18f := fun lim L => c18 (d := d + 7) (lim := lim) (Sl_freeze.2 ((Sl_freeze.2 t).app L)) hl'
  have k15 := fun lim => c15 (d := d + 1) (lim := lim) (s := s) (a := a) (b := b) (Sl_freeze.2 (copyAt (h := h) (l := l) [bD s, bR a b, bC l] (k := 2) rfl)) hl' hnm
  have k23 := fun lim T => c23 (d := d + 1) (lim := lim) (s := s) (a := a) (b := b) (Sl_freeze.2 (copyAt (h := h) (l := l) [bD s, bR a b, bC l, T, bC l] (k := 4) rfl)) hl' hnm
  have k14 := fun lim L => c14 (d := d + 4) (lim := lim) (s := s) ((Sl_freeze.2 t).app L) hl'
  have k24 := fun lim hh => c24 (d := d + 6) (lim := lim) (h := hh) (a := a) (b := b)
  by_cases he : heardE l s a b = 0
  · obtain ⟨e1, e2⟩ := heardE_ok he
    have k25 := fun lim L => c25 (d := d + 3) (lim := lim) (Sl_freeze.2 ((Sl_freeze.2 t).app L)) (SdOk.of e1) (FOk.of e2)
    have k26 := fun lim L => c26 (d := d + 2) (lim := lim) (Sl_freeze.2 ((Sl_freeze.2 t).app L)) (SdOk.of e1) (FOk.of e2)
    simp only [he, rgE, if_true] at k15 k23
    simp [ef5, c9, k11, hs, c12, hn, k18f, k15, k23, k14, e1, k24, e2, k25, k26]
  · simp only [rgE, if_neg he] at k15 k23
    by_cases e1 : chkD l s = 0
    · have e2 : freqB a b = false := by
        rcases q : freqB a b with _ | _
        · rfl
        · exact absurd (by simp [heardE, e1, q]) he
      have e3 : heardE l s a b = 2 := by simp [heardE, e1, e2]
      rw [e3] at k15 k23
      simp [ef5, c9, k11, hs, c12, hn, k18f, k15, k23, k14, e1, k24, e2]
    · have e3 : heardE l s a b = chkD l s := by simp [heardE, e1]
      rw [e3] at k15 k23
      simp [ef5, c9, k11, hs, c12, hn, k18f, k15, k23, k14, e1]
theorem c6 {d lim : Nat} {h : Heap} {v : Value} {l : List Wi} {s : Sd} {a b : Int} (t : SlW h v l) : E.call (d + 9) lim 6 [v, sdV s, rgV a b] h = some (.bool true, h) := by
  have k11 := fun lim L => c11 (d := d + 7) (lim := lim) ((Sl_freeze.2 t).app L)
  refine call1 fn6 rfl (by simp [ef6]) ?_
  rcases hs : shortB l with _ | _
  · simp [ef6, c9, k11, hs]
  rcases hn : namedB s with _ | _
  · simp [ef6, c9, k11, hs, c12, hn]
  obtain ⟨hl, hnm⟩ := short_ok hs
  have hl' : l.length ≤ 1000 := by omega
  have k18f := fun lim L => c18 (d := d + 7) (lim := lim) (Sl_freeze.2 ((Sl_freeze.2 t).app L)) hl'
  have k27 := fun lim => c27 (d := d + 1) (lim := lim) (s := s) (a := a) (b := b) (Sl_freeze.2 (copyAt (h := h) (l := l) [bD s, bR a b, bC l] (k := 2) rfl)) hl' hnm
  have k28 := fun lim T => c28 (d := d + 1) (lim := lim) (s := s) (a := a) (b := b) (Sl_freeze.2 (copyAt (h := h) (l := l) [bD s, bR a b, bC l, T, bC l] (k := 4) rfl)) hl' hnm
  have k14 := fun lim L => c14 (d := d + 4) (lim := lim) (s := s) ((Sl_freeze.2 t).app L) hl'
  have k24 := fun lim hh => c24 (d := d + 6) (lim := lim) (h := hh) (a := a) (b := b)
  by_cases he : heardE l s a b = 0
  · obtain ⟨e1, e2⟩ := heardE_ok he
    have k29 := fun lim L => c29 (d := d + 2) (lim := lim) ((Sl_freeze.2 t).app L) (SdOk.of e1) (FOk.of e2)
    have k30 := fun lim L => c30 (d := d + 2) (lim := lim) ((Sl_freeze.2 t).app L) (SdOk.of e1) (FOk.of e2)
    simp only [he, if_true] at k27 k28
    unfold rgE at k27 k28 k29 k30
    by_cases z1 : inE l s a = 0
    · by_cases z2 : imE s a = 0
      · simp [z1, z2] at k27 k28 k29 k30
        simp [ef6, c9, k11, hs, c12, hn, k18f, k27, k28, k14, e1, k24, e2, k29, k30]
      · simp [z1, z2] at k27 k28 k29 k30
        simp [ef6, c9, k11, hs, c12, hn, k18f, k27, k28, k14, e1, k24, e2, k29, k30]
    · by_cases z2 : imE s a = 0
      · simp [z1, z2] at k27 k28 k29 k30
        simp [ef6, c9, k11, hs, c12, hn, k18f, k27, k28, k14, e1, k24, e2, k29, k30]
      · simp [z1, z2] at k27 k28 k29 k30
        simp [ef6, c9, k11, hs, c12, hn, k18f, k27, k28, k14, e1, k24, e2, k29, k30]
  · simp only [if_neg he] at k27 k28
    by_cases e1 : chkD l s = 0
    · have e2 : freqB a b = false := by
        rcases q : freqB a b with _ | _
        · rfl
        · exact absurd (by simp [heardE, e1, q]) he
      have e3 : heardE l s a b = 2 := by simp [heardE, e1, e2]
      rw [e3] at k27 k28
      simp [ef6, c9, k11, hs, c12, hn, k18f, k27, k28, k14, e1, k24, e2]
    · have e3 : heardE l s a b = chkD l s := by simp [heardE, e1]
      rw [e3] at k27 k28
      simp [ef6, c9, k11, hs, c12, hn, k18f, k27, k28, k14, e1]
end V
end Go.Abs
/- Chapter 2: the law ScaleGrows. -/
namespace Go.Abs
namespace V
set_option maxRecDepth 100000
set_option maxHeartbeats 0
theorem modV_bd {n m : Int} (h0 : 0 < m) (h1 : m ≤ 1000000) : 0 ≤ modV n m ∧ modV n m < m := by
  have a := Int.tmod_lt_of_pos n h0
  have b : -m < n.tmod m := by
    have := Int.natAbs_tmod n m
    have h2 : (n.tmod m).natAbs < m.natAbs := by rw [this]; exact Nat.mod_lt _ (by omega)
    omega
  unfold modV qmod
  split
  · rw [wrap_eq (by omega) (by omega)]; omega
  · omega
theorem c3 {d lim : Nat} {h : Heap} {v : Value} {l : List Wi} {s : Sd} {x0 x1 x2 x3 : Int} (t : SlW h v l) : E.call (d + 9) lim 3 [v, sdV s, .agg #[i64 x0, i64 x1, i64 x2, i64 x3]] h = some (.bool true, h) := by
  have k10 := fun lim hh n m (hm : m ≠ 0) => c10g (d := d + 7) (lim := lim) (h := hh) (n := n) (m := m) hm
  have k11 := fun lim L => c11 (d := d + 7) (lim := lim) ((Sl_freeze.2 t).app L)
  have k13 := fun lim hh a b c => c13 (d := d + 7) (lim := lim) (h := hh) (a := a) (b := b) (c := c)
  obtain ⟨len, core, over, wire, wrap⟩ := s
  have k12 := fun lim hh => c12 (d := d + 7) (lim := lim) (h := hh) (s := ⟨len, core, over, wire, wrap⟩)
  simp only [sdV] at k12 ⊢
  refine call1 fn3 rfl (by simp [ef3]) ?_
  rcases hs : shortB l with _ | _
  · simp [ef3, c9, k10, k11, hs]
  rcases hn : namedB ⟨len, core, over, wire, wrap⟩ with _ | _
  · simp [ef3, c9, k10, k11, hs, k12, hn]
  by_cases ho' : over ≠ 0
  · simp [ef3, c9, k10, k11, hs, k12, hn, ho']
  obtain rfl : over = 0 := by omega
  rcases hx : within x0 1 9000000 with _ | _
  · simp [ef3, c9, k10, k11, hs, k12, hn, k13, hx]
  obtain ⟨hl, hnm⟩ := short_ok hs
  have hl' : l.length ≤ 1000 := by omega
  have m1 := modV_bd (n := x1) (m := 1000) (by omega) (by omega)
  have m2 := modV_bd (n := x2) (m := 5000) (by omega) (by omega)
  have m3 := modV_bd (n := x3) (m := 200) (by omega) (by omega)
  have x0b : 1 ≤ x0 ∧ x0 ≤ 9000000 := by simpa [within] using hx
  have wx : IntKind.wrap .i64 (x0 + modV x1 1000) = x0 + modV x1 1000 := wrap_eq (by omega) (by omega)
  have k14a := fun lim L => c14 (d := d + 4) (lim := lim) (s := ⟨len, core, 0, wire, wrap⟩) ((Sl_freeze.2 t).app L) hl'
  have k14b := fun lim L => c14 (d := d + 4) (lim := lim) (s := ⟨IntKind.wrap .i64 (len + modV x2 5000), core, 0, wire, wrap⟩) ((Sl_freeze.2 t).app L) hl'
  have k14c := fun lim L => c14 (d := d + 4) (lim := lim) (s := ⟨len, IntKind.wrap .i64 (core + modV x3 200), 0, wire, wrap⟩) ((Sl_freeze.2 t).app L) hl'
  simp only [sdV] at k14a k14b k14c
  by_cases e2 : chkD l ⟨IntKind.wrap .i64 (len + modV x2 5000), core, 0, wire, wrap⟩ = 0
  · by_cases e3 : chkD l ⟨len, IntKind.wrap .i64 (core + modV x3 200), 0, wire, wrap⟩ = 0
    · by_cases e1 : chkD l ⟨len, core, 0, wire, wrap⟩ = 0
      · have O := SdOk.of e1
        have c1 := O.len
        have c2 := O.core
        simp only at c1 c2
        have w2 : IntKind.wrap .i64 (len + modV x2 5000) = len + modV x2 5000 := wrap_eq (by omega) (by omega)
        have w3 : IntKind.wrap .i64 (core + modV x3 200) = core + modV x3 200 := wrap_eq (by omega) (by omega)
        rw [w2] at k14b e2
        rw [w3] at k14c e3
        have O2 := SdOk.of e2
        have O3 := SdOk.of e3
        have f0 : freqB x0 x0 = true := by simp [freqB]; omega
        have f1 : freqB x0 (x0 + modV x1 1000) = true := by simp [freqB]; omega
        have f2 : freqB (x0 + modV x1 1000) (x0 + modV x1 1000) = true := by simp [freqB]; omega
        have h0 : heardE l ⟨len, core, 0, wire, wrap⟩ x0 x0 = 0 := by simp [heardE, e1, f0]
        have h2 : heardE l ⟨len + modV x2 5000, core, 0, wire, wrap⟩ x0 x0 = 0 := by simp [heardE, e2, f0]
        have h3 : heardE l ⟨len, core + modV x3 200, 0, wire, wrap⟩ x0 x0 = 0 := by simp [heardE, e3, f0]
        have h4 : heardE l ⟨len, core, 0, wire, wrap⟩ x0 (x0 + modV x1 1000) = 0 := by simp [heardE, e1, f1]
        have h5 : heardE l ⟨len, core, 0, wire, wrap⟩ (x0 + modV x1 1000) (x0 + modV x1 1000) = 0 := by simp [heardE, e1, f2]
        have k0 := fun lim L => c15 (d := d + 1) (lim := lim) (s := ⟨len, core, 0, wire, wrap⟩) (a := x0) (b := x0) ((Sl_freeze.2 t).app L) hl' hnm
        have k2 := fun lim L => c15 (d := d + 1) (lim := lim) (s := ⟨len + modV x2 5000, core, 0, wire, wrap⟩) (a := x0) (b := x0) ((Sl_freeze.2 t).app L) hl' hnm
        have k3 := fun lim L => c15 (d := d + 1) (lim := lim) (s := ⟨len, core + modV x3 200, 0, wire, wrap⟩) (a := x0) (b := x0) ((Sl_freeze.2 t).app L) hl' hnm
        have k4 := fun lim L => c15 (d := d + 1) (lim := lim) (s := ⟨len, core, 0, wire, wrap⟩) (a := x0) (b := x0 + modV x1 1000) ((Sl_freeze.2 t).app L) hl' hnm
        have k5 := fun lim L => c15 (d := d + 1) (lim := lim) (s := ⟨len, core, 0, wire, wrap⟩) (a := x0 + modV x1 1000) (b := x0 + modV x1 1000) ((Sl_freeze.2 t).app L) hl' hnm
        simp only [sdV, h0, h2, h3, h4, h5, rgE, if_true] at k0 k2 k3 k4 k5
        have le0 := ten_le O (f := x0) (by omega) (by omega)
        have ml : mOf l ⟨len, core, 0, wire, wrap⟩ ≤ mOf l ⟨len + modV x2 5000, core, 0, wire, wrap⟩ := by rw [mOf_len (s := ⟨len, core, 0, wire, wrap⟩) rfl rfl rfl rfl]; exact Int.le_refl _
        have ma := ten_mono O (s' := ⟨len + modV x2 5000, core, 0, wire, wrap⟩) ml (by simp only; omega) (f := x0) (f' := x0) (by omega) (Int.le_refl _) (by omega)
        have mb := ten_mono O (s' := ⟨len, core + modV x3 200, 0, wire, wrap⟩) (mOf_core O rfl rfl rfl (by simp only; omega)) (Int.le_refl _) (f := x0) (f' := x0) (by omega) (Int.le_refl _) (by omega)
        have mc := ten_mono O (s' := ⟨len, core, 0, wire, wrap⟩) (Int.le_refl _) (Int.le_refl _) (f := x0) (f' := x0 + modV x1 1000) (by omega) (by omega) (by omega)
        simp [ef3, c9, k10, k11, hs, k12, hn, k13, hx, k14a, k14b, k14c, e1, e2, e3, wx, w2, w3, k0, k2, k3, k4, k5, le0, ma, mb, mc, c16, withB]
      · simp [ef3, c9, k10, k11, hs, k12, hn, k13, hx, k14a, k14b, k14c, e1, e2, e3]
    · simp [ef3, c9, k10, k11, hs, k12, hn, k13, hx, k14b, k14c, e2, e3]
  · simp [ef3, c9, k10, k11, hs, k12, hn, k13, hx, k14b, e2]
end V
end Go.Abs
/- Chapter 2: the law ScaleLengths. -/
namespace Go.Abs
namespace V
set_option maxRecDepth 100000
set_option maxHeartbeats 0
theorem cR_plain (l : List XR) : (cS encR l).all plainV = true := by simp [cS, List.all_flatMap, encR, plainV]
theorem cR_one (l : List XR) : (cS encR l).all Value.oneCell' = true := by simp [cS, List.all_flatMap, encR, Value.oneCell']
theorem ownR {h : Heap} {l : List XR} (A : List (Option Blk)) {k : Nat} (hk : A[k]? = some (some ⟨cS encR l, true⟩)) : SlR (h.freeze ++ A) (.slice (some ⟨h.length + k, 0, none⟩) l.length 2) l :=
  Sl_own (f := encR) (es := 2) (fun _ => rfl) (by rw [hget_base (by simp), hk]; rfl) rfl
theorem ownB {h : Heap} {L : List Bd} {n : Nat} (A : List (Option Blk)) {k : Nat} (hk : A[k]? = some (some ⟨cB (L.map iB), true⟩)) (hn : n = L.length) : SlB3 (h.freeze ++ A) (.slice (some ⟨h.length + k, 0, none⟩) n 3) (L.map iB) :=
  SlB3_own (by rw [hget_base (by simp), hk]; rfl) hn
theorem ownI {h : Heap} {l : List Int} {n : Nat} (A : List (Option Blk)) {k : Nat} (hk : A[k]? = some (some ⟨cI l, true⟩)) (hn : n = l.length) : SlI' (h.freeze ++ A) (.slice (some ⟨h.length + k, 0, none⟩) n 1) l :=
  SlI'_own (by rw [hget_base (by simp), hk]; rfl) hn
abbrev bP (dl dh : Int) : Option Blk := some ⟨[i64 dl, i64 dh], true⟩
abbrev bQ (l : List XR) : Option Blk := some ⟨cS encR l, true⟩
theorem c7 {d lim : Nat} {h : Heap} {v : Value} {l : List XR} {dl dh : Int} (s : SlR h v l) : E.call (d + 9) lim 7 [v, rgV dl dh] h = some (.bool true, h) := by
  have r := s.rules2
  refine call1 fn7 rfl (by simp [ef7]) ?_
  by_cases hA : 12 < l.length ∧ l.length ≤ 50
  · have i1 : (12 : Int) < l.length := by omega
    have i2 : (l.length : Int) ≤ 50 := by omega
    simp [ef7, c9, r, hA.1, hA.2, i1, i2, Int.not_le.2 i1, Nat.not_le.2 hA.1]
  by_cases hB : 55 < l.length
  · have i1 : (12 : Int) < l.length := by omega
    have i2 : ¬ (l.length : Int) ≤ 50 := by omega
    have i3 : (55 : Int) < l.length := by omega
    have n1 : 12 < l.length := by omega
    have n2 : ¬ l.length ≤ 50 := by omega
    simp [ef7, c9, r, hB, i1, i2, i3, n1, n2, Int.not_le.2 i1, Int.not_le.2 i3, Nat.not_le.2 n1, Nat.not_le.2 hB]
  have i55 : ¬ (55 : Int) < l.length := by omega
  have k33 := fun lim L => c33 (d := d + 6) (lim := lim) (dl := dl) (dh := dh) ((Sl_freeze.2 s).app L)
  rcases Nat.eq_zero_or_pos l.length with hz | hz
  · have el : l = [] := List.eq_nil_of_length_eq_zero hz
    subst el
    have c0 : cS encR [] = [] := rfl
    have gn : ∀ hh : Heap, SlI' hh (.slice none 0 0) [] := fun hh => ⟨rfl, rfl, fun q => absurd rfl q, .inl rfl, fun k hk => by simp at hk⟩
    have vv : v = .slice none 0 0 ∨ ∃ bv o' t', v = .slice (some ⟨bv, o', none⟩) 0 t' := by
      rcases s.low with rfl | ⟨bv, o', m', t', rfl, hbv⟩
      · exact .inl rfl
      · obtain rfl : m' = 0 := by
          have := s.len
          simpa using this
        exact .inr ⟨bv, o', t', rfl⟩
    have k31 := fun lim => c31 (d := d + 7) (lim := lim) (dl := dl) (dh := dh) (ownR (h := h) (l := []) [bP dl dh, some ⟨cS encR [], true⟩] (k := 1) rfl)
    by_cases he : lenE [] dl dh = 0
    · obtain ⟨X, ht⟩ : ∃ X, tryR (sysL [] dl dh) (([] : List XR).length + 1) (([] : List XR).length + 1) 0 = some X := ⟨_, rfl⟩
      have O := LenOk.of he
      have ko : okL [] dl dh (smo [] dl dh) 0 = true := by rw [okL_ge (by simp)]
      have k32 := fun lim => c32a (d := d + 4) (lim := lim) (ownR (h := h) (l := []) [bP dl dh, some ⟨cS encR [], true⟩, some ⟨cS encR [], true⟩] (k := 2) rfl) he ht
      have k35 := fun lim L => c35 (d := d + 7) (lim := lim) ((Sl_freeze.2 s).app L) O
      have k36 := fun lim L => c36 (d := d + 6) (lim := lim) ((Sl_freeze.2 s).app L) he
      have k34 := fun lim hh => c34 (d := d + 7) (lim := lim) (SlB3_nil hh) (SlB3_nil hh) (by simp)
      have k37 := fun lim hh => c37 (d := d + 7) (lim := lim) (gn hh) (gn hh) (by simp)
      simp only [he, ko, if_true, sysV, sysK, smoV, smoK, c0] at k31 k32 k35 k36
      simp at k31 k32 k35 k36
      rcases vv with rfl | ⟨bv, o', t', rfl⟩
      · simp [ef7, c9, E.append, E.added, zeros, fillL, KOp_eq, k31, k32, k33, he, k34, k35, k36, k37]
      · simp [ef7, c9, E.append, E.added, zeros, fillL, KOp_eq, k31, k32, k33, he, k34, k35, k36, k37]
    · have k32 := fun lim => c32e (d := d + 6) (lim := lim) (ownR (h := h) (l := []) [bP dl dh, some ⟨cS encR [], true⟩, some ⟨cS encR [], true⟩] (k := 2) rfl) he
      simp only [if_neg he, c0] at k31 k32
      simp at k31 k32
      rcases vv with rfl | ⟨bv, o', t', rfl⟩
      · simp [ef7, c9, E.append, E.added, zeros, fillL, KOp_eq, k31, k32, k33, he]
        rfl
      · simp [ef7, c9, E.append, E.added, zeros, fillL, KOp_eq, k31, k32, k33, he]
        rfl
  obtain ⟨b, o', kc, rfl, G, g1, g2, hb'⟩ := s.blkF (by omega) (by decide)
  have cp := cR_plain l
  have c1 := cR_one l
  have n0 : l.length ≠ 0 := by omega
  have m1 : l.length * 16 ≤ 140737488355328 := by omega
  have m2 : l.length ≤ 9223372036854775807 := by omega
  by_cases he : lenE l dl dh = 0
  · have O := LenOk.of he
    have few : l.length ≤ 12 := by have := O.few; omega
    have GS := good_sys O
    have sl := sysL_len l dl dh
    have cs := chkS_good GS (by omega) (by omega) (by rw [sl]; omega)
    have w1n' : IntKind.wrap .i64 ((l.length : Int) + 1) = ((l.length + 1 : Nat) : Int) := by rw [wrap_eq (by omega) (by omega)]; omega
    have i1 : ¬ (12 : Int) < l.length := by omega
    have n1 : ¬ 12 < l.length := by omega
    have k31 := fun lim => c31 (d := d + 7) (lim := lim) (dl := dl) (dh := dh) (ownR (h := h) (l := l) [bP dl dh, none, bQ l] (k := 2) rfl)
    have k35 := fun lim L => c35 (d := d + 7) (lim := lim) ((Sl_freeze.2 s).app L) O
    have k36 := fun lim L => c36 (d := d + 6) (lim := lim) ((Sl_freeze.2 s).app L) he
    have ml : (sysL l dl dh).length ≤ 1000 := by rw [sl]; omega
    simp only [he, if_true, sysV, sysK, if_neg n0] at k31 k35
    rcases ht : tryR (sysL l dl dh) (l.length + 1) (l.length + 1) 0 with _ | X
    · obtain ⟨t0, hlow⟩ : ∃ t0, (iterR (sysL l dl dh) (l.length + 1) (l.length + 1)).low = some t0 := by
        have := tryR_none (l.length + 1) 0 ht (l.length + 1) (by omega) (by omega)
        rcases q : (iterR (sysL l dl dh) (l.length + 1) (l.length + 1)).low with _ | t0
        · exact absurd q this
        · exact ⟨t0, rfl⟩
      obtain ⟨nv, hb, p, C⟩ := never GS (by omega) hlow
      rcases hit : iterR (sysL l dl dh) (l.length + 1) (l.length + 1) with ⟨x0, bb, lw⟩
      rw [hit] at hlow hb C
      simp only at hlow hb C
      subst hlow
      have ko : okL l dl dh (smo l dl dh) 0 = false := by
        rcases q : okL l dl dh (smo l dl dh) 0 with _ | _
        · rfl
        · exact absurd (keep_iff.1 (pass_keep O (okL_iff.1 q))) (C.none _)
      have k32 := fun lim => c32b (d := d + 4) (lim := lim) (ownR (h := h) (l := l) [bP dl dh, none, bQ l, some ⟨cB ((sysL l dl dh).map iB), true⟩, none, bQ l] (k := 5) rfl) he ht hit hb C n0
      have Wy := way_of C (by omega)
      have hc := chain_of C
      have hs := sum_all C
      have lR : (cycI (sysL l dl dh) bb (back (sysL l dl dh) bb t0 (l.length + 1)) p).reverse.length = p := by simp [cycI_len]
      have p1 := C.p1
      have pn := C.pn
      clear hb C nv
      generalize (cycI (sysL l dl dh) bb (back (sysL l dl dh) bb t0 (l.length + 1)) p).reverse = R at *
      generalize fW (sysL l dl dh) bb (back (sysL l dl dh) bb t0 (l.length + 1)) p = f at *
      rw [← lR] at hc hs
      have k34 := fun lim => c34 (d := d + 7) (lim := lim) (ownB (h := h) (L := sysL l dl dh) [bP dl dh, none, bQ l, some ⟨cB ((sysL l dl dh).map iB), true⟩, none, bQ l, some ⟨cI R, true⟩, some ⟨cB ((sysL l dl dh).map iB), true⟩] (k := 3) rfl sl.symm) (ownB (h := h) (L := sysL l dl dh) [bP dl dh, none, bQ l, some ⟨cB ((sysL l dl dh).map iB), true⟩, none, bQ l, some ⟨cI R, true⟩, some ⟨cB ((sysL l dl dh).map iB), true⟩] (k := 7) rfl sl.symm) (by simpa using ml)
      have k39 := fun lim => c39g (d := d + 7) (lim := lim) (ownI (h := h) (l := R) [bP dl dh, none, bQ l, some ⟨cB ((sysL l dl dh).map iB), true⟩, none, bQ l, some ⟨cI R, true⟩, some ⟨cB ((sysL l dl dh).map iB), true⟩] (k := 6) rfl lR.symm) (by omega)
      have k38 := fun lim => c38 (d := d + 5) (lim := lim) (ownB (h := h) (L := sysL l dl dh) [bP dl dh, none, bQ l, some ⟨cB ((sysL l dl dh).map iB), true⟩, none, bQ l, some ⟨cI R, true⟩, some ⟨cB ((sysL l dl dh).map iB), true⟩, some ⟨cI R, true⟩] (k := 3) rfl sl.symm) (ownI (h := h) (l := R) [bP dl dh, none, bQ l, some ⟨cB ((sysL l dl dh).map iB), true⟩, none, bQ l, some ⟨cI R, true⟩, some ⟨cB ((sysL l dl dh).map iB), true⟩, some ⟨cI R, true⟩] (k := 8) rfl lR.symm) GS Wy (by omega) cs hc hs
      rw [lR] at k39 k38 hs
      simp only [ko, Bool.false_eq_true, if_false] at k36
      generalize sumF (sysL l dl dh) f p = S at *
      simp at k38
      simp [ef7, c9, r, i1, n1, i55, hB, few, Int.not_lt.1 i1, Int.not_lt.1 i55, Nat.not_lt.1 hB, E.append, E.added, zeros, fillL, G, g1, g2, n0, c1, cp, m1, m2, maxLen, KOp_eq, k31, k32, k33, he, k34, k35, k36, k39, k38, w1n', hs]
    · have ko : okL l dl dh (smo l dl dh) 0 = true := okL_iff.2 (keep_pass O (tryR_keep GS _ _ _ ht))
      have k32 := fun lim => c32a (d := d + 4) (lim := lim) (ownR (h := h) (l := l) [bP dl dh, none, bQ l, some ⟨cB ((sysL l dl dh).map iB), true⟩, none, bQ l] (k := 5) rfl) he ht
      simp only [ko, if_true] at k36
      simp only [smoV, smoK, if_neg n0] at k32 k36
      have lS : (smo l dl dh).length = l.length := (smo_sm O).1.len
      have k34 := fun lim => c34 (d := d + 7) (lim := lim) (ownB (h := h) (L := sysL l dl dh) [bP dl dh, none, bQ l, some ⟨cB ((sysL l dl dh).map iB), true⟩, none, bQ l, some ⟨cI (smo l dl dh), true⟩, some ⟨cB ((sysL l dl dh).map iB), true⟩] (k := 3) rfl sl.symm) (ownB (h := h) (L := sysL l dl dh) [bP dl dh, none, bQ l, some ⟨cB ((sysL l dl dh).map iB), true⟩, none, bQ l, some ⟨cI (smo l dl dh), true⟩, some ⟨cB ((sysL l dl dh).map iB), true⟩] (k := 7) rfl sl.symm) (by simpa using ml)
      have k37 := fun lim => c37 (d := d + 7) (lim := lim) (ownI (h := h) (l := smo l dl dh) [bP dl dh, none, bQ l, some ⟨cB ((sysL l dl dh).map iB), true⟩, none, bQ l, some ⟨cI (smo l dl dh), true⟩, some ⟨cB ((sysL l dl dh).map iB), true⟩, some ⟨cI (smo l dl dh), true⟩] (k := 6) rfl lS.symm) (ownI (h := h) (l := smo l dl dh) [bP dl dh, none, bQ l, some ⟨cB ((sysL l dl dh).map iB), true⟩, none, bQ l, some ⟨cI (smo l dl dh), true⟩, some ⟨cB ((sysL l dl dh).map iB), true⟩, some ⟨cI (smo l dl dh), true⟩] (k := 8) rfl lS.symm) (by omega)
      simp [ef7, c9, r, i1, n1, i55, hB, few, Int.not_lt.1 i1, Int.not_lt.1 i55, Nat.not_lt.1 hB, E.append, E.added, zeros, fillL, G, g1, g2, n0, c1, cp, m1, m2, maxLen, KOp_eq, k31, k32, k33, he, k34, k35, k36, k37]
  · have k31 := fun lim => c31 (d := d + 7) (lim := lim) (dl := dl) (dh := dh) (ownR (h := h) (l := l) [bP dl dh, none, bQ l] (k := 2) rfl)
    have k32 := fun lim => c32e (d := d + 6) (lim := lim) (ownR (h := h) (l := l) [bP dl dh, none, bQ l, none, bQ l] (k := 4) rfl) he
    simp only [if_neg he] at k31
    rcases Nat.lt_or_ge 12 l.length with h12 | h12
    · have i1 : (12 : Int) < l.length := by omega
      have i2 : ¬ (l.length : Int) ≤ 50 := by omega
      have n2 : ¬ l.length ≤ 50 := by omega
      simp [ef7, c9, r, i1, i2, i55, hB, h12, n2, Int.not_le.2 i1, Nat.not_le.2 h12, Int.not_lt.1 i55, Nat.not_lt.1 hB, E.append, E.added, zeros, fillL, G, g1, g2, n0, c1, cp, m1, m2, maxLen, KOp_eq, k31, k32, k33, he]
      rfl
    · have i1 : ¬ (12 : Int) < l.length := by omega
      have n1 : ¬ 12 < l.length := by omega
      simp [ef7, c9, r, i1, n1, i55, hB, h12, Int.not_lt.1 i1, Int.not_lt.1 i55, Nat.not_lt.1 hB, E.append, E.added, zeros, fillL, G, g1, g2, n0, c1, cp, m1, m2, maxLen, KOp_eq, k31, k32, k33, he]
      rfl
end V
end Go.Abs
