/- Tests of some numbers. -/
import Derived.Test.YtfbelnhibipndaaGreatDoorAbsZUOM
import Derived.Test.YtfbelnhibipndaaGreatDoorAbsZUOP
set_option linter.unusedSimpArgs false
set_option linter.unusedVariables false
/- Tests of some numbers. -/
namespace Go.Abs
namespace Z.U
set_option maxRecDepth 100000
set_option maxHeartbeats 0
set_option linter.unusedSimpArgs false
def lV4 (b : Nat) (L : List P4) : Value := if L = [] then .slice none 0 0 else .slice (some ⟨b, 0, none⟩) L.length 4
def lB4 (L : List P4) : List (Option Blk) := if L = [] then [] else [some ⟨cS enc4 L, true⟩]
def ofK (l : List P4) (S : List Int) : Nat → List P4
  | 0 => []
  | k + 1 => ofK l S k ++ [at4 l (gI S k).toNat]
theorem ofK_len (l : List P4) (S : List Int) : ∀ k, (ofK l S k).length = k
  | 0 => rfl
  | k + 1 => by rw [ofK, List.length_append, ofK_len l S k]; rfl
def ofA (l : List P4) (S : List Int) : List P4 := ofK l S S.length
theorem cS4_snoc (L : List P4) (x : P4) : cS enc4 L ++ [i64 x.1, i64 x.2.1, i64 x.2.2.1, i64 x.2.2.2] = cS enc4 (L ++ [x]) := by simp [cS, enc4]
end Z.U
end Go.Abs
/- Thinning: plain. -/
namespace Go.Abs
namespace Z.U
set_option maxRecDepth 100000
theorem at4_ofK {l : List P4} {S : List Int} : ∀ k i, i < k → at4 (ofK l S k) i = at4 l (gI S i).toNat
  | 0, i, h => by omega
  | k + 1, i, h => by
    have len := ofK_len l S k
    unfold at4 at *
    rw [ofK]
    by_cases z : i < k
    · rw [List.getElem?_append_left (by omega)]
      exact at4_ofK (l := l) (S := S) k i z
    · obtain rfl : i = k := by omega
      rw [List.getElem?_append_right (by omega), len, Nat.sub_self]; rfl
/-- Numbers of tests, ascending. -/
structure SOk (l : List P4) (S : List Int) : Prop where
  rng : ∀ x ∈ S, 0 ≤ x ∧ x < l.length
  asc : S.Pairwise (· < ·)
theorem SOk.at {l : List P4} {S : List Int} (o : SOk l S) : ∀ i, i < S.length → 0 ≤ gI S i ∧ gI S i < l.length := fun i hi => o.rng _ (gI_mem hi)
theorem SOk.lt {l : List P4} {S : List Int} (o : SOk l S) {i j : Nat} (h : i < j) (hj : j < S.length) : gI S i < gI S j := by
  rw [gI_eq (by omega), gI_eq hj]
  exact List.pairwise_iff_getElem.1 o.asc i j (by omega) hj h
theorem asc_len : ∀ (S : List Int) (a b : Int), S.Pairwise (· < ·) → (∀ x ∈ S, a ≤ x ∧ x < b) → a ≤ b → (S.length : Int) ≤ b - a
  | [], a, b, _, _, h => by simp; omega
  | x :: S, a, b, hp, hr, h => by
    rw [List.pairwise_cons] at hp
    have hx := hr x (by simp)
    have := asc_len S (x + 1) b hp.2 (fun y hy => ⟨by have := hp.1 y hy; omega, (hr y (by simp [hy])).2⟩) (by omega)
    simp only [List.length_cons]
    omega
theorem SOk.len {l : List P4} {S : List Int} (o : SOk l S) : S.length ≤ l.length := by
  have := asc_len S 0 l.length o.asc o.rng (by omega)
  omega
/-- Some of good tests are good. -/
theorem TOk.sub {l : List P4} {S : List Int} (O : TOk l) (o : SOk l S) : TOk (ofA l S) := by
  have hl : (ofA l S).length = S.length := ofK_len l S _
  have sl := o.len
  have ol := O.len
  have e : ∀ i, i < S.length → at4 (ofA l S) i = at4 l (gI S i).toNat := fun i hi => at4_ofK _ i hi
  refine ⟨by omega, fun i hi => ?_, fun i hi k hk => ?_⟩
  · rw [e i (by omega)]
    have := o.at i (by omega)
    exact O.chk _ (by omega)
  · rw [e i (by omega), e k (by omega)]
    have a := o.at i (by omega)
    have b := o.at k (by omega)
    have c := o.lt hk (by omega)
    exact O.one _ (by omega) _ (by omega)
theorem chkTs_0 {l : List P4} (O : TOk l) : chkTs l = 0 := by
  unfold chkTs
  have := O.len
  rw [if_neg (by omega), fstE_all _ 0 rfl]
  intro i _ hi
  unfold tErr
  rw [if_pos (O.chk i hi), if_neg]
  rw [has4_iff]
  rintro ⟨k, hk, e⟩
  have hk' : k < i := by rw [List.length_take] at hk; omega
  rw [at4_take hk'] at e
  exact O.one i hi k hk' e
def iL : Nat → List Int
  | 0 => []
  | k + 1 => iL k ++ [(k : Int)]
theorem iL_len : ∀ k, (iL k).length = k
  | 0 => rfl
  | k + 1 => by rw [iL, List.length_append, iL_len k]; rfl
theorem mem_iL {x : Int} : ∀ k, x ∈ iL k ↔ 0 ≤ x ∧ x < k
  | 0 => by simp only [iL, List.not_mem_nil, false_iff]; omega
  | k + 1 => by
    rw [iL, List.mem_append, mem_iL k, List.mem_singleton]
    omega
theorem iL_asc : ∀ k, (iL k).Pairwise (· < ·)
  | 0 => List.Pairwise.nil
  | k + 1 => by
    rw [iL, List.pairwise_append]
    refine ⟨iL_asc k, by simp, fun x hx y hy => ?_⟩
    have := (mem_iL k).1 hx
    rw [List.mem_singleton.1 hy]; omega
theorem SOk.iL (l : List P4) : SOk l (iL l.length) := ⟨fun x hx => (mem_iL _).1 hx, iL_asc _⟩
/-- Whether tests do as well without one. -/
def thin (l : List P4) (S : List Int) : Bool := (tw1 (sgA (ofA l S)) (ntD (ofA l S)) 0).isNone && decide (ntD (ofA l S) = ntD l)
end Z.U
end Go.Abs
/- One number is taken out of a row. -/
namespace Go.Abs
namespace Z.U
set_option maxRecDepth 100000
set_option maxHeartbeats 0
set_option linter.unusedSimpArgs false
theorem c79 {d lim p : Nat} {h : Heap} {x i : Int} {rw_ : Bool} (hp : h.get p = some ⟨[i64 i], rw_⟩) : E.call (d + 1) lim 79 [i64 x, pB p] h = some (.bool (decide (x = i)), h) := by
  refine call1 fn79 rfl (by simp [ef79]) ?_
  have ck := cell_get (o := 0) hp
  simp [ef79, ck]
  by_cases z : x = i <;> simp [z]
theorem c78 {d lim b p j0 : Nat} {G : Heap} {S Z : List Int} {i : Int} {rw_ : Bool} (hb : b < G.length) (hpl : p < G.length) (hp : ∀ X, (sH G b X).get p = some ⟨[i64 i], rw_⟩) (hs : S.length ≤ 1000) (hj : j0 < S.length) (hji : gI S j0 = i) (hne : ∀ j, j < S.length → j ≠ j0 → gI S j ≠ i) :
    E.call (d + 3) lim 78 [vS b S.length, .func (.func 79) #[] #[pB p]] (sH G b (S ++ Z)) = some (vS b (S.length - 1), sH G b (S.eraseIdx j0 ++ 0 :: Z)) := by
  have key : ∃ v h', E.call (d + 3) lim 78 [vS b S.length, .func (.func 79) #[] #[pB p]] (sH G b (S ++ Z)) = some (v, h') ∧ v = vS b (S.length - 1) ∧ h' = sH G b (S.eraseIdx j0 ++ 0 :: Z) := by
    refine call_trunc (Q := fun v h' => v = vS b (S.length - 1) ∧ h' = sH G b (S.eraseIdx j0 ++ 0 :: Z)) fn78 rfl (by simp [ef78]) ?_
    have sl : SlI' (sH G b (S ++ Z)) (vS b S.length) S := SlI'_pre (sH_get hb _) rfl
    have k104 := fun lim => c123 (d := d + 1) (lim := lim) (g := 79) (h := sH G b (S ++ Z)) (ca := #[pB p]) (p := fun x => decide (x = i)) sl (by omega) (by simp [hpl]) (by simp) (fun lim x => by have := c79 (d := d) (lim := lim) (x := x) (hget_freeze (hp (S ++ Z))); simpa using this)
    have eJ : fstI (fun i_1 => decide (S.getD i_1 0 = i)) S.length 0 = j0 := by
      obtain ⟨a1, a2, a3, a4⟩ := fstI_spec (p := fun k => decide (S.getD k 0 = i)) (n := S.length) _ 0 rfl (by omega)
      generalize fstI (fun k => decide (S.getD k 0 = i)) S.length 0 = J at *
      rcases Nat.lt_trichotomy J j0 with z | z | z
      · have := a3 (by omega)
        rw [decide_eq_true_eq] at this
        exact absurd this (hne J (by omega) (by omega))
      · exact z
      · have := a4 j0 (by omega) z
        rw [decide_eq_false_iff_not] at this
        exact absurd hji this
    simp only [eJ, if_pos hj] at k104
    have w1' := w1 (i := j0) (by omega)
    have nm : ¬ (j0 : Int) = -1 := by omega
    simp [ef78, k104, w1', nm]
    obtain ⟨n, hn⟩ : ∃ n, n = S.length := ⟨_, rfl⟩
    have k96 := fun lim X x => c79 (d := d + 1) (lim := lim) (x := x) (hp X)
    have gS : ∀ j, j < n → gI (S ++ Z) j = gI S j := fun j h => by
      unfold gI
      rw [List.getD_eq_getElem?_getD, List.getD_eq_getElem?_getD, List.getElem?_append_left (by omega)]
    have hL : (S ++ Z).length = n + Z.length := by rw [List.length_append, hn]
    rw [← hn] at hs hj hne ⊢
    generalize hY : S ++ Z = Y at *
    have fin : ∀ X : List Int, X.length = n + Z.length → (∀ j, gI X j = if j < j0 then gI Y j else if j < n - 1 then gI Y (j + 1) else gI Y j) → X.set (n - 1) 0 = S.eraseIdx j0 ++ 0 :: Z := fun X hX hP => by
      have le : (S.eraseIdx j0).length = n - 1 := by rw [List.length_eraseIdx, if_pos (by omega)]; omega
      refine gI_ext (by rw [List.length_set, List.length_append, le, List.length_cons]; omega) fun j hj' => ?_
      rw [gI_set (by omega), hP j]
      unfold gI
      simp only [List.getD_eq_getElem?_getD]
      by_cases z1 : n - 1 = j
      · rw [if_pos z1, List.getElem?_append_right (by omega), le, show j - (n - 1) = 0 by omega]; rfl
      · rw [if_neg z1]
        by_cases z2 : j < n - 1
        · rw [List.getElem?_append_left (by omega), List.getElem?_eraseIdx]
          by_cases z3 : j < j0
          · rw [if_pos z3, if_pos z3, ← hY, List.getElem?_append_left (by omega)]
          · rw [if_neg z3, if_pos z2, if_neg z3, ← hY, List.getElem?_append_left (by omega)]
        · rw [if_neg (by omega), if_neg z2, ← hY, List.getElem?_append_right (by omega), List.getElem?_append_right (by omega), le, ← hn, show j - (n - 1) = (j - n) + 1 by omega]; rfl
    refine wpC_loop (fun q st => ∃ (m w : Nat) (X : List Int), q = n - m ∧ j0 + 1 ≤ m ∧ m ≤ n ∧ w = m - 1 ∧ X.length = n + Z.length ∧ (∀ j, gI X j = if j < j0 then gI Y j else if j < m - 1 then gI Y (j + 1) else gI Y j) ∧ st = ⟨[(0, vS b n), (1, .func (.func 79) #[] #[pB p]), (5, i64 (w : Int)), (6, i64 (m : Int))], sH G b X⟩) (n - (j0 + 1)) (by show n - (j0 + 1) < 2 ^ 64; omega) ?_ ?_
    · simp [St.tidy, hb, hpl, sH_take]
      refine ⟨j0 + 1, rfl, by omega, by omega, Y, hL, fun j => ?_, ⟨by omega, by omega⟩, rfl⟩
      by_cases z : j < j0
      · rw [if_pos z]
      · rw [if_neg z, if_neg (by omega)]
    · rintro q hq _ ⟨m, w, X, rfl, hm1, hm, hw, hX, hP, rfl⟩
      have cl : (cI X).length = n + Z.length := by rw [cI_len, hX]
      by_cases lt : m < n
      · have lti : (m : Int) < n := by omega
        obtain ⟨p1, p2, p3, p4, p5⟩ := ixL (l := X) (k := m) (by omega)
        have gm : gI X m = gI S m := by rw [hP m, if_neg (by omega), if_neg (by omega), gS m lt]
        rw [gm] at p2 p3
        have nx := hne m lt (by omega)
        have wm := w1 (i := m) (by omega)
        have ww := w1 (i := w) (by omega)
        have wn : w < n := by omega
        have wni : (w : Int) < n := by omega
        have wle : w + 1 ≤ n + Z.length := by omega
        have na : noAddr (i64 (gI S m)) = true := rfl
        simp [lt, lti, Nat.not_le.2 lt, Int.not_le.2 lti, p2, p3, k96, nx, wm, ww, wn, wni, wle, na, sH_get hb, sH_cell hb, sH_put, cl, cI_set, St.tidy, hb, hpl, sH_take]
        refine ⟨n - (m + 1), by omega, m + 1, rfl, by omega, by omega, X.set w (gI S m), by rw [List.length_set, hX], fun j => ?_, ⟨by omega, by omega⟩, rfl⟩
        rw [gI_set (by omega)]
        by_cases z1 : w = j
        · rw [if_pos z1, if_neg (by omega), if_pos (by omega), show j + 1 = m by omega, gS m lt]
        · rw [if_neg z1, hP j]
          by_cases z2 : j < j0
          · rw [if_pos z2, if_pos z2]
          · rw [if_neg z2, if_neg z2]
            by_cases z3 : j < m - 1
            · rw [if_pos z3, if_pos (by omega)]
            · rw [if_neg z3, if_neg (by omega)]
      · obtain rfl : m = n := by omega
        subst hw
        have nn : m - (m - 1) = 1 := by omega
        have mle : m - 1 ≤ m := by omega
        simp [E.bound, nn, mle, sH_get hb, cl, hb]
        refine ⟨by omega, ?_⟩
        rw [show splice (cI X) (m - 1) (zeros [Value.int IntKind.i64 0] 1) = (cI X).set (m - 1) (i64 0) from rfl, cI_set, sH_put, sH_take, fin X hX hP]
  obtain ⟨v, h', e1, rfl, rfl⟩ := key
  exact e1
end Z.U
end Go.Abs
/- Thinning: the reference's. -/
namespace Go.Abs
namespace Z.U
set_option maxRecDepth 100000
set_option maxHeartbeats 0
set_option linter.unusedSimpArgs false
/-- What is left, from the last test on. -/
def thT (l : List P4) : Nat → List Int → List Int
  | 0, T => T
  | k + 1, T => if thin l (iL k ++ T) = true then thT l k T else thT l k ((k : Int) :: T)
theorem iL_snoc (k : Nat) (T : List Int) : iL (k + 1) ++ T = iL k ++ (k : Int) :: T := by rw [iL, List.append_assoc]; rfl
theorem SOk_less {l : List P4} {k : Nat} {T : List Int} (o : SOk l (iL (k + 1) ++ T)) : SOk l (iL k ++ T) := by
  rw [iL_snoc] at o
  have s : (iL k ++ T).Sublist (iL k ++ (k : Int) :: T) := List.Sublist.append_left (List.sublist_cons_self _ _) _
  exact ⟨fun x hx => o.rng x (s.subset hx), o.asc.sublist s⟩
theorem ntD_nil : ntD [] = [] := by
  refine List.eq_nil_of_length_eq_zero ?_
  have := dd_len (ntS []) (ntS []).length
  have : (ntS []).length = 0 := ntS_len []
  unfold ntD; omega
theorem ntD_ne0 {l : List P4} (h : l.length ≠ 0) : ntD l ≠ [] := fun y => by
  have m : (at4 l 0).1 ∈ ntD l := dd_mem _ (Nat.le_refl _) (by rw [List.take_length]; exact mem_ntS.2 ((mem_nts _).2 ⟨0, by omega, .inl rfl⟩))
  rw [y] at m; cases m
end Z.U
end Go.Abs
/- Thinning: the program's. -/
namespace Go.Abs
namespace Z.U
set_option maxRecDepth 100000
set_option maxHeartbeats 0
set_option linter.unusedSimpArgs false
def rZ (n m : Nat) : List Int := List.replicate (n - m) 0
theorem erase_iL (k : Nat) (T : List Int) : (iL (k + 1) ++ T).eraseIdx k = iL k ++ T := by
  have := iL_len k
  rw [iL_snoc, List.eraseIdx_append_of_length_le (by omega), show k - (iL k).length = 0 by omega]; rfl
theorem gI_iL {n i : Nat} (h : i < n) : gI (iL n) i = i := by
  induction n with
  | zero => omega
  | succ n ih =>
    have := iL_len n
    rw [iL]
    unfold gI at *
    rw [List.getD_eq_getElem?_getD] at *
    by_cases z : i < n
    · rw [List.getElem?_append_left (by omega)]; exact ih z
    · obtain rfl : i = n := by omega
      rw [List.getElem?_append_right (by omega), this, Nat.sub_self]; rfl
theorem gI_app_l {A B : List Int} {i : Nat} (h : i < A.length) : gI (A ++ B) i = gI A i := by
  unfold gI; rw [List.getD_eq_getElem?_getD, List.getD_eq_getElem?_getD, List.getElem?_append_left h]
theorem gI_app_r {A B : List Int} {i : Nat} (h : A.length ≤ i) : gI (A ++ B) i = gI B (i - A.length) := by
  unfold gI; rw [List.getD_eq_getElem?_getD, List.getD_eq_getElem?_getD, List.getElem?_append_right h]
def thV (l : List P4) (b : Nat) : Value := if l.length = 0 then .slice none 0 0 else vS b (thT l l.length []).length
def thB (l : List P4) : List (Option Blk) := if l.length = 0 then [] else [some ⟨cI (thT l l.length [] ++ rZ l.length (thT l l.length []).length), true⟩]
def thOk (l : List P4) : Bool := decide (chkTs l = 0) && (tw1 (sgA l) (ntD l) 0).isNone
theorem c43 {d lim : Nat} {h : Heap} {v : Value} {l : List P4} (s : Sl4 h v l) (hl : chkTs l = 0 → l.length ≤ 12) :
    E.call (d + 10) lim 43 [v] h = some (.tuple #[if thOk l = true then thV l h.length else .slice none 0 0, i64 (if chkTs l = 0 then (if thOk l = true then 0 else 24) else chkTs l)], h ++ if thOk l = true then thB l else []) := by
  have r := s.rules2
  have k59 := fun (L : Heap) lim => c11 (d := d + 5) (lim := lim) ((Sl_freeze.2 s).app L)
  have k59b := fun lim => c11 (d := d + 5) (lim := lim) (Sl_freeze.2 s)
  refine call_pure fn43 rfl (by simp [ef43]) ?_
  unfold thOk thV thB
  by_cases q0 : chkTs l = 0
  case neg => simp [ef43, k59, k59b, q0]
  have O := TOk.of q0
  have l12 := hl q0
  have k87 := fun (L : Heap) lim => c76 (d := d) (lim := lim) ((Sl_freeze.2 s).app L) l12
  have k87b := fun lim => c76 (d := d) (lim := lim) (Sl_freeze.2 s) l12
  have k85 := fun (L : Heap) lim => c73 (D := d + 1) (lim := lim) ((Sl_freeze.2 s).app L) l12
  unfold ntV ntB at k85
  rcases hT : tw1 (sgA l) (ntD l) 0 with _ | ⟨x, y⟩
  case some =>
    simp only [hT, twV] at k87 k87b
    simp [ef43, k59, k59b, q0, k87, k87b]
  simp only [hT, twV] at k87 k87b
  obtain ⟨n, hn⟩ : ∃ n, n = l.length := ⟨_, rfl⟩
  by_cases n0 : l.length = 0
  · have ln : l = [] := List.eq_nil_of_length_eq_zero n0
    simp only [n0, if_true] at k85
    have wmm : IntKind.wrap .i64 (-1) = -1 := wrap_eq (by omega) (by omega)
    simp [-collect_own1, ef43, k59, k59b, q0, k87, k87b, k85, n0, ln, wmm, r]
    rw [wpC_unroll, wpI_step (by simp [E_fuel'])]
    simp [-collect_own1, St.tidy, collect_box, s.own, r, ln, wmm]
    rw [wpC_unroll, wpI_step (by simp [E_fuel'])]
    have c0 : chkTs [] = 0 := ln ▸ q0
    simp [-collect_own1, St.tidy, collect_box, s.own, r, ln, c0]
  have hne : ¬ l = [] := fun z => n0 (by rw [z]; rfl)
  simp only [if_neg n0] at k85
  generalize hD : ddz (ntS l) = D at *
  have cpD := cI_plain D
  generalize hR : thT l l.length [] = R
  simp [-collect_own1, ef43, k59, k59b, q0, k87, k87b, k85, n0, hne, r]
  refine wpC_loop (fun q st => ∃ i : Nat, q = l.length - i ∧ i ≤ l.length ∧ st = ⟨[(0, v), (7, vS h.length (ntD l).length), (8, lV (h.length + 1) (iL i)), (30, i64 (l.length : Int)), (31, i64 (i : Int))], h.freeze ++ some ⟨cI D, true⟩ :: lB (iL i)⟩) l.length (by show l.length < 2 ^ 64; omega) ?_ ?_
  · simp [-collect_own1, cpD, hne, St.tidy, collect_box, s.own, r]
    exact ⟨0, by omega, by omega, ⟨by simp [iL, lV], rfl⟩, by simp [iL, lB]⟩
  rintro q hq _ ⟨i, rfl, hi, rfl⟩
  by_cases hlt : i < l.length
  · have hlti : (i : Int) < l.length := by omega
    have w1' := w1 (i := i) (by omega)
    have sl := iL_len i
    have sl1 := iL_len (i + 1)
    have hsn : cI (iL i) ++ [i64 (i : Int)] = cI (iL (i + 1)) := by simp [iL, cI]
    have ne1 : ¬ iL (i + 1) = [] := fun z => by rw [z] at sl1; cases sl1
    have one := one_cI (iL i)
    have cp := cI_plain (iL (i + 1))
    have cl := cI_len (iL i)
    rcases Nat.eq_zero_or_pos i with z0 | z0
    · subst z0
      rw [show iL 0 = [] from rfl] at hsn ⊢
      rw [show cI [] = [] from rfl, List.nil_append] at hsn
      simp [-collect_own1, lV, lB, hlt, fillL, zeros, E.append, E.added, w1', cpD, St.tidy, collect_box, s.own, r]
      exact ⟨by decide, l.length - 1, by omega, 1, by omega, by omega, ⟨by rw [if_neg ne1, sl1], rfl⟩, by rw [if_neg ne1]; exact congrArg (fun c => [some (Blk.mk c true)]) hsn⟩
    · have ne : ¬ iL i = [] := fun z => by rw [z] at sl; simp at sl; omega
      simp [-collect_own1, lV, lB, ne, hlt, hlti, Nat.not_le.2 hlt, sl, fillL, zeros, E.append, E.added, hsn, cp, cl, w1', cpD, St.tidy, collect_box, s.own, r]
      exact ⟨⟨by omega, by unfold maxLen; omega⟩, l.length - (i + 1), by omega, i + 1, by omega, by omega, ⟨by rw [if_neg ne1, sl1], by omega⟩, by rw [if_neg ne1]⟩
  obtain rfl : i = l.length := by omega
  have sl := iL_len l.length
  have wm : IntKind.wrap .i64 ((l.length : Int) - 1) = (l.length : Int) - 1 := wrap_eq (by omega) (by omega)
  have nne : ¬ iL l.length = [] := fun z => by rw [z] at sl; exact n0 sl.symm
  have cpL := cI_plain (iL l.length)
  simp [-collect_own1, n0, nne, lV, lB, wm, sl, r]
  refine wpC_loop (fun q st => ∃ (k : Nat) (T S Z : List Int) (x : Int), q = k ∧ k ≤ l.length ∧ S = iL k ++ T ∧ Z = rZ l.length S.length ∧ x = (k : Int) - 1 ∧ SOk l S ∧ thT l k T = R ∧ st = ⟨[(0, v), (7, vS h.length (ntD l).length), (8, vS (h.length + 1) S.length), (10, pB (h.length + 2))], h.freeze ++ [some ⟨cI D, true⟩, some ⟨cI (S ++ Z), true⟩, some ⟨[i64 x], true⟩]⟩) l.length (by show l.length < 2 ^ 64; omega) ?_ ?_
  · simp [-collect_own1, cpL, cpD, St.tidy, collect_box, s.own, r]
    exact ⟨[], by rw [List.append_nil]; exact SOk.iL l, hR, by simp [sl], by simp [rZ, sl]⟩
  · rintro k hq _ ⟨k', T, S, Z, x, hkk, hk, hS, hZ, hx, hO, hc, rfl⟩
    subst hkk
    have cpS := cI_plain (S ++ Z)
    rcases k with _ | k
    · have xm : x < 0 := by omega
      simp [thT] at hc
      simp [iL] at hS
      subst hS hc hZ
      simp [Int.not_le.2 xm, xm, cpS]
    · obtain rfl : x = (k : Int) := by omega
      have xp : 0 ≤ (k : Int) := by omega
      have OL := SOk_less (hS ▸ hO)
      have Ol := O.sub OL
      have Sl' := hO.len
      have slen : S.length = k + 1 + T.length := by rw [hS, List.length_append, iL_len]
      have wx : IntKind.wrap .i64 ((k : Int) - 1) = (k : Int) - 1 := wrap_eq (by omega) (by omega)
      have hE := erase_iL k T
      rw [← hS] at hE
      unfold thT at hc
      obtain ⟨W, hW⟩ : ∃ W, W = iL k ++ T := ⟨_, rfl⟩
      rw [← hW] at hc OL Ol hE
      have wl : W.length = k + T.length := by rw [hW, List.length_append, iL_len]
      have gS : ∀ j, j < S.length → gI S j = if j ≤ k then (j : Int) else gI W (j - 1) := fun j hj => by
        rw [hS, hW, iL_snoc]
        have il := iL_len k
        by_cases z : j < k
        · rw [if_pos (by omega), gI_app_l (by omega), gI_iL z]
        · by_cases z2 : j = k
          · subst z2
            rw [if_pos (by omega), gI_app_r (by omega), il, Nat.sub_self]; rfl
          · rw [if_neg (by omega), gI_app_r (by omega), gI_app_r (by omega), il, show j - k = (j - 1 - k) + 1 by omega]; rfl
      have gW : ∀ j, j < k → gI W j = j := fun j hj => by rw [hW, gI_app_l (by rw [iL_len]; exact hj), gI_iL hj]
      have sZ : ∀ j, j < S.length → gI (S ++ Z) j = gI S j := fun j hj => gI_app_l hj
      obtain ⟨m, hm⟩ : ∃ m, m = S.length := ⟨_, rfl⟩
      obtain ⟨Y, hY⟩ : ∃ Y, Y = S ++ Z := ⟨_, rfl⟩
      rw [← hm] at slen gS sZ ⊢
      rw [← hY] at sZ cpS ⊢
      simp [-collect_own1, xp]
      refine wpC_loop (fun q st => ∃ (j p : Nat), q = m - j ∧ j ≤ m ∧ p = (if j ≤ k then j else j - 1) ∧ st = ⟨[(0, v), (7, vS h.length (ntD l).length), (8, vS (h.length + 1) m), (10, pB (h.length + 2)), (11, lV4 (h.length + 3) (ofK l W p)), (46, vS (h.length + 1) m), (47, i64 (m : Int)), (48, i64 (j : Int))], h.freeze ++ some ⟨cI D, true⟩ :: some ⟨cI Y, true⟩ :: some ⟨[i64 (k : Int)], true⟩ :: lB4 (ofK l W p)⟩) m (by show m < 2 ^ 64; omega) ?_ ?_
      · simp [-collect_own1, cpS, cpD, St.tidy, collect_box, s.own, r]
        exact ⟨0, by omega, by omega, ⟨by simp [ofK, lV4], rfl⟩, by simp [ofK, lB4]⟩
      · rintro q hq _ ⟨j, p, rfl, hj, hp, rfl⟩
        have lenp := ofK_len l W p
        have cpp := c4_plain (ofK l W p)
        by_cases hlt : j < m
        · have hlti : (j : Int) < m := by omega
          have w1' := w1 (i := j) (by omega)
          obtain ⟨p1, p2, p3, p4, p5⟩ := ixL (l := Y) (k := j) (by rw [hY, List.length_append]; omega)
          rw [sZ j hlt, gS j hlt] at p2 p3
          by_cases jk : j = k
          · subst jk
            rw [if_pos (Nat.le_refl _)] at hp p2 p3
            subst hp
            have pk : (if p + 1 ≤ p then p + 1 else p + 1 - 1) = p := by rw [if_neg (by omega)]; omega
            by_cases e : ofK l W p = []
            · simp [-collect_own1, lV4, lB4, e, hlt, hlti, Nat.not_le.2 hlt, p2, p3, w1', St.tidy, collect_box, s.own, r, cpS, cpD]
              exact ⟨m - (p + 1), by omega, p + 1, rfl, by omega, ⟨by rw [pk]; exact e, by omega⟩, by rw [pk]; exact e⟩
            · simp [-collect_own1, lV4, lB4, e, lenp, hlt, hlti, Nat.not_le.2 hlt, p2, p3, w1', cpp, St.tidy, collect_box, s.own, r, cpS, cpD]
              exact ⟨m - (p + 1), by omega, p + 1, rfl, by omega, ⟨by rw [pk, if_neg e, lenp], by omega⟩, by rw [pk, if_neg e]⟩
          · have pw : p < W.length := by split at hp <;> omega
            have xe : (if j ≤ k then (j : Int) else gI W (j - 1)) = gI W p := by
              by_cases z : j ≤ k
              · rw [if_pos z, hp, if_pos z, gW j (by omega)]
              · rw [if_neg z, hp, if_neg z]
            rw [xe] at p2 p3
            have xk : ¬ gI W p = (k : Int) := fun y => by
              by_cases z : p < k
              · rw [gW p z] at y; omega
              · have a := hO.lt (i := k) (j := p + 1) (by omega) (by omega)
                rw [gS k (by omega), gS (p + 1) (by omega), if_pos (Nat.le_refl _), if_neg (by omega), Nat.add_sub_cancel, y] at a
                omega
            obtain ⟨a0, a1⟩ := OL.at p pw
            have ax : (gI W p).toNat < l.length := by omega
            have pt := c4_part ax
            have k4 : (gI W p).toNat * 4 + 4 ≤ l.length * 4 := by omega
            have hnx : ofK l W (p + 1) = ofK l W p ++ [at4 l (gI W p).toNat] := rfl
            have hsn := cS4_snoc (ofK l W p) (at4 l (gI W p).toNat)
            rw [← hnx] at hsn
            have pn : (if j + 1 ≤ k then j + 1 else j + 1 - 1) = p + 1 := by
              by_cases z : j ≤ k
              · rw [hp, if_pos z, if_pos (by omega)]
              · rw [hp, if_neg z, if_neg (by omega)]; omega
            have cp := c4_plain (ofK l W (p + 1))
            have cl := c4_len (ofK l W p)
            have lenk1 := ofK_len l W (p + 1)
            rw [lenp] at cl
            have ne1 : ¬ ofK l W (p + 1) = [] := fun z => by rw [z] at lenk1; cases lenk1
            by_cases e : ofK l W p = []
            · have p0 : p = 0 := by rw [e] at lenp; simpa using lenp.symm
              rw [e, show cS enc4 [] = [] from rfl, List.nil_append] at hsn
              generalize gI W p = x at *
              simp [-collect_own1, lV4, lB4, e, hlt, hlti, Nat.not_le.2 hlt, p2, p3, xk, a0, a1, ax, k4, pt, fillL, zeros, E.append, E.added, w1', St.tidy, collect_box, s.own, r, cpS, cpD]
              exact ⟨by decide, m - (j + 1), by omega, j + 1, rfl, by omega, ⟨by rw [pn, if_neg ne1, lenk1, p0], by omega⟩, by rw [pn, if_neg ne1]; exact congrArg (fun c => [some (Blk.mk c true)]) hsn⟩
            · have p0 : p ≠ 0 := fun z => e (by rw [z]; rfl)
              generalize gI W p = x at *
              simp [-collect_own1, lV4, lB4, e, lenp, hlt, hlti, Nat.not_le.2 hlt, p2, p3, xk, a0, a1, ax, k4, pt, fillL, zeros, E.append, E.added, cl, hsn, cp, w1', St.tidy, collect_box, s.own, r, cpS, cpD]
              exact ⟨⟨by omega, by unfold maxLen; omega⟩, m - (j + 1), by omega, j + 1, rfl, by omega, ⟨by rw [pn, if_neg ne1, lenk1], by omega⟩, by rw [pn, if_neg ne1]⟩
        · obtain rfl : m = j := by omega
          have pW : p = W.length := by rw [hp, if_neg (by omega)]; omega
          subst pW
          have Wl : ofK l W W.length = ofA l W := rfl
          rw [Wl]
          have lW : (ofA l W).length = W.length := ofK_len l W _
          have cpW := c4_plain (ofA l W)
          have nl : ntD l ≠ [] := ntD_ne0 n0
          have zr : rZ l.length W.length = 0 :: Z := by
            rw [hZ]; unfold rZ
            rw [show l.length - W.length = (l.length - S.length) + 1 by omega]; rfl
          have wS : W.length = m - 1 := by omega
          have k95 : ∀ (L : List (Option Blk)) (lim : Nat), E.call (d + 9) lim 78 [vS (h.length + 1) m, .func (.func 79) #[] #[pB (h.length + 2)]] (h.freeze ++ some ⟨cI D, true⟩ :: some ⟨cI Y, true⟩ :: some ⟨[i64 (k : Int)], true⟩ :: L) =
              some (vS (h.length + 1) (m - 1), h.freeze ++ some ⟨cI D, true⟩ :: some ⟨cI (W ++ 0 :: Z), true⟩ :: some ⟨[i64 (k : Int)], true⟩ :: L) := fun L lim => by
            have q := c78 (d := d + 6) (lim := lim) (b := h.length + 1) (p := h.length + 2) (j0 := k) (G := h.freeze ++ some ⟨cI D, true⟩ :: some ⟨cI Y, true⟩ :: some ⟨[i64 (k : Int)], true⟩ :: L) (S := S) (Z := Z) (i := (k : Int)) (rw_ := true) (by simp) (by simp)
              (fun X => by unfold sH; rw [hput_base (by simp), hget_base (by simp)]; rfl) (by omega) (by omega) (by rw [gS k (by omega), if_pos (Nat.le_refl _)]) (fun j hj hjk => by
                rcases Nat.lt_trichotomy j k with z | z | z
                · rw [gS j (by omega), if_pos (by omega)]; omega
                · exact absurd z hjk
                · have a := hO.lt z hj
                  rw [gS k (by omega), if_pos (Nat.le_refl _)] at a
                  omega)
            unfold sH at q
            rw [hput_base (by simp), hput_base (by simp), ← hY, hE, ← hm] at q
            exact q
          have cpW0 := cI_plain (W ++ 0 :: Z)
          have cpw := cI_plain W
          have hS2 : S = iL k ++ (k : Int) :: T := hS.trans (iL_snoc k T)
          have sl2 : S.length = (iL k).length + ((k : Int) :: T).length := by rw [hS2, List.length_append]
          have so := fun (L : Heap) (b' n' : Nat) (hg : Heap.get (h.freeze ++ L) b' = some ⟨cS enc4 (ofA l W), true⟩) (hn : n' = (ofA l W).length) => Sl_own (f := enc4) (es := 4) (fun _ => rfl) hg hn
          have k87o := fun (L : Heap) (b' n' lim : Nat) (hg : Heap.get (h.freeze ++ L) b' = some ⟨cS enc4 (ofA l W), true⟩) (hn : n' = (ofA l W).length) => c76 (d := d) (lim := lim) (so L b' n' hg hn) (by omega)
          have k85o := fun (L : Heap) (b' n' lim : Nat) (hg : Heap.get (h.freeze ++ L) b' = some ⟨cS enc4 (ofA l W), true⟩) (hn : n' = (ofA l W).length) => c73 (D := d + 1) (lim := lim) (so L b' n' hg hn) (by omega)
          have dl : (ntD l).length ≤ 88 := by rw [ntD_rn O]; exact rn_len l 88
          have dw : (ntD (ofA l W)).length ≤ 88 := by rw [ntD_rn Ol]; exact rn_len _ 88
          unfold thin at hc
          by_cases z0 : W = []
          · have e0 : ofA l W = [] := by rw [z0]; rfl
            have nz : Sl4 h (.slice none 0 0) [] := ⟨rfl, rfl, fun h => absurd rfl h, .inl rfl, fun k hk => absurd hk (Nat.not_lt_zero k)⟩
            have nzi : SlI' h (.slice none 0 0) [] := ⟨rfl, rfl, fun h => absurd rfl h, .inl rfl, fun k hk => absurd hk (Nat.not_lt_zero k)⟩
            have k87n := fun (L : Heap) lim => c76 (d := d) (lim := lim) ((Sl_freeze.2 nz).app L) (by decide)
            have k85n := fun (L : Heap) lim => c73 (D := d + 1) (lim := lim) ((Sl_freeze.2 nz).app L) (by decide)
            unfold ntV ntB at k85n
            rw [ntD_nil] at k87n
            have t0 : tw1 (sgA []) [] 0 = none := tw1_ge (by decide)
            simp only [t0, twV, List.length_nil, if_true, List.append_nil] at k87n k85n
            have k94n := fun (L : Heap) (b2 n2 lim : Nat) (g2 : Heap.get (h.freeze ++ L) b2 = some ⟨cI D, true⟩) (e2 : n2 = (ntD l).length) =>
              c77 (d := d + 8) (lim := lim) ((Sl_freeze.2 nzi).app L) (SlI'_pre (l := ntD l) (z := List.replicate ((ntS l).length - (ntD l).length) 0) (g2.trans (by rw [← hD]; rfl)) e2) (by decide) (by omega)
            have nl' : ¬ [] = ntD l := fun y => nl y.symm
            rw [if_neg (by rw [e0, ntD_nil, decide_eq_false nl', Bool.and_false]; simp)] at hc
            simp [-collect_own1, Nat.lt_irrefl, lV4, lB4, e0, k87n, k85n, k94n, nl', Nat.add_assoc, wx, St.tidy, collect_box, s.own, r, cpS, cpD]
            exact ⟨k, by omega, by omega, (k : Int) :: T, hS2 ▸ hO, hc, by omega, by rw [← List.append_assoc, ← hS2, hY, hZ, ← sl2], rfl⟩
          have wp : W.length ≠ 0 := fun y => z0 (List.eq_nil_of_length_eq_zero y)
          have nW : ¬ ofA l W = [] := fun y => by rw [y] at lW; exact wp lW.symm
          unfold ntV ntB at k85o
          simp only [lW, if_neg wp] at k85o
          have k94 := fun (L : Heap) (b1 b2 n1 n2 lim : Nat) (g1 : Heap.get (h.freeze ++ L) b1 = some ⟨cI (ddz (ntS (ofA l W))), true⟩) (e1 : n1 = (ntD (ofA l W)).length) (g2 : Heap.get (h.freeze ++ L) b2 = some ⟨cI D, true⟩) (e2 : n2 = (ntD l).length) =>
            c77 (d := d + 8) (lim := lim) (SlI'_pre (l := ntD (ofA l W)) (z := List.replicate ((ntS (ofA l W)).length - (ntD (ofA l W)).length) 0) g1 e1) (SlI'_pre (l := ntD l) (z := List.replicate ((ntS l).length - (ntD l).length) 0) (g2.trans (by rw [← hD]; rfl)) e2) (by omega) (by omega)
          rcases hT2 : tw1 (sgA (ofA l W)) (ntD (ofA l W)) 0 with _ | ⟨x, y⟩
          · simp only [hT2, twV] at k87o
            by_cases qq : ntD (ofA l W) = ntD l
            · rw [if_pos (by rw [hT2, decide_eq_true qq]; rfl)] at hc
              simp [-collect_own1, k87o, k85o, k94, k95, qq, Nat.lt_irrefl, lV4, lB4, nW, lW, Nat.add_assoc, wx, St.tidy, collect_box, s.own, r, cpS, cpD, cpW, cpW0, cpw]
              exact ⟨k, by omega, by omega, T, hW ▸ OL, hc, by rw [iL_len]; omega, by rw [← List.append_assoc, ← hW, iL_len, ← wl, zr], rfl⟩
            · rw [if_neg (by rw [decide_eq_false qq, Bool.and_false]; simp)] at hc
              simp [-collect_own1, k87o, k85o, k94, k95, qq, Nat.lt_irrefl, lV4, lB4, nW, lW, Nat.add_assoc, wx, St.tidy, collect_box, s.own, r, cpS, cpD, cpW, cpW0, cpw]
              exact ⟨k, by omega, by omega, (k : Int) :: T, hS2 ▸ hO, hc, by omega, by rw [← List.append_assoc, ← hS2, hY, hZ, ← sl2], rfl⟩
          · simp only [hT2, twV] at k87o
            rw [if_neg (by rw [hT2]; simp)] at hc
            simp [-collect_own1, k87o, k85o, k94, k95, Nat.lt_irrefl, lV4, lB4, nW, lW, Nat.add_assoc, wx, St.tidy, collect_box, s.own, r, cpS, cpD, cpW, cpW0, cpw]
            exact ⟨k, by omega, by omega, (k : Int) :: T, hS2 ▸ hO, hc, by omega, by rw [← List.append_assoc, ← hS2, hY, hZ, ← sl2], rfl⟩
end Z.U
end Go.Abs
