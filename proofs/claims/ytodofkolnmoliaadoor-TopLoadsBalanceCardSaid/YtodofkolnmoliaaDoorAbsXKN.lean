/- Chapter 3: pulls: the reference. -/
import Derived.Test.YtodofkolnmoliaaDoorAbsXKM
import Derived.Test.YtodofkolnmoliaaDoorAbsXUN
import Derived.Test.YtodofkolnmoliaaDoorAbsXUM
set_option linter.unusedSimpArgs false
set_option linter.unusedVariables false
/- Chapter 3: pulls: the reference. -/
namespace Go.Abs
namespace X
set_option maxRecDepth 100000
set_option maxHeartbeats 0
theorem c100 {d lim : Nat} {h : Heap} {a b c : Int} : E.call (d + 2) lim 100 [v3 a b c, i64 1000000] h = some (.bool (plB a b c), h) := by
  have k := fun lim hh a b c => c18 (d := d) (lim := lim) (h := hh) (a := a) (b := b) (c := c)
  refine call1 fn100 rfl (by simp [ef100]) ?_
  unfold plB
  have wn : IntKind.wrap .i64 (-1000000) = -1000000 := rfl
  simp [ef100]
  rw [wpC_unroll, wpI_step (by simp [E_fuel'])]
  rcases q1 : within a (-1000000) 1000000 with _ | _
  · simp [St.tidy, k, q1, wn]
  simp [St.tidy, k, q1, wn]
  rw [wpI_step (by simp [E_fuel'])]
  rcases q2 : within b (-1000000) 1000000 with _ | _
  · simp [St.tidy, k, q2, wn]
  simp [St.tidy, k, q2, wn]
  rw [wpI_step (by simp [E_fuel'])]
  rcases q3 : within c (-1000000) 1000000 with _ | _
  · simp [St.tidy, k, q3, wn]
  simp [St.tidy, k, q3, wn]
  rw [wpI_step (by simp [E_fuel'])]
  simp [St.tidy]
theorem c117 {d lim : Nat} {h : Heap} {a b c x y z : Int} : E.call (d + 1) lim 117 [v3 a b c, v3 x y z] h = some (v3 (wr (a - x)) (wr (b - y)) (wr (c - z)), h) := by
  refine call1 fn117 rfl (by simp [ef117]) ?_
  simp [ef117]
def cmP (a b s s' c : Int) : XR := (floorV (wr (wr (100 * a) * c)) s', ceilV (wr (wr (100 * b) * c)) s)
def cmR (a b s s' c : Int) : XR := if c = 0 then (0, 0) else if c < 0 then (wr (-(cmP a b s s' (-c)).2), wr (-(cmP a b s s' (-c)).1)) else cmP a b s s' c
theorem c119p {d lim : Nat} {h : Heap} {a b s s' c : Int} (hc : 0 < c) (hs : s ≠ 0) (hs' : s' ≠ 0) : E.call (d + 3) lim 119 [rgV a b, i64 c, rgV s s'] h = some (rgV (cmP a b s s' c).1 (cmP a b s s' c).2, h) := by
  have k162 := fun lim hh n m (hm : m ≠ 0) => c162 (d := d + 1) (lim := lim) (h := hh) (n := n) (m := m) hm
  have k163 := fun lim hh n m (hm : m ≠ 0) => c163 (d := d) (lim := lim) (h := hh) (n := n) (m := m) hm
  have c0 : c ≠ 0 := by omega
  have cn : ¬ c < 0 := by omega
  refine call1 fn119 rfl (by simp [ef119]) ?_
  simp [ef119, c0, cn, k162, k163, hs, hs', cmP]
theorem c119 {d lim : Nat} {h : Heap} {a b s s' c : Int} (hc : -1000000 ≤ c ∧ c ≤ 1000000) (hs : s ≠ 0) (hs' : s' ≠ 0) : E.call (d + 4) lim 119 [rgV a b, i64 c, rgV s s'] h = some (rgV (cmR a b s s' c).1 (cmR a b s s' c).2, h) := by
  unfold cmR
  by_cases c0 : c = 0
  · subst c0
    refine call1 fn119 rfl (by simp [ef119]) ?_
    simp [ef119]
  by_cases cn : c < 0
  · have k := fun lim hh => c119p (d := d) (lim := lim) (h := hh) (a := a) (b := b) (s := s) (s' := s') (c := -c) (by omega) hs hs'
    have wn : IntKind.wrap .i64 (-c) = -c := wrap_eq (by omega) (by omega)
    refine call1 fn119 rfl (by simp [ef119]) ?_
    simp [ef119, c0, cn, wn, k]
  · rw [if_neg c0, if_neg cn]
    exact c119p (d := d + 1) (by omega) hs hs'
def refV (a b x y z : Int) : Value := .agg #[i64 (cmR a b (rtF (sq3 x y z)) (rtU (sq3 x y z)) x).1, i64 (cmR a b (rtF (sq3 x y z)) (rtU (sq3 x y z)) x).2, i64 (cmR a b (rtF (sq3 x y z)) (rtU (sq3 x y z)) y).1, i64 (cmR a b (rtF (sq3 x y z)) (rtU (sq3 x y z)) y).2, i64 (cmR a b (rtF (sq3 x y z)) (rtU (sq3 x y z)) z).1, i64 (cmR a b (rtF (sq3 x y z)) (rtU (sq3 x y z)) z).2]
theorem c54 {d lim : Nat} {h : Heap} {a b p1 p2 p3 q1 q2 q3 : Int} (hab : 0 ≤ a ∧ a ≤ b ∧ b ≤ 1000000) :
    E.call (d + 5) lim 54 [rgV a b, v3 p1 p2 p3, v3 q1 q2 q3] h = some (.tuple #[if pqE p1 p2 p3 q1 q2 q3 = 0 then refV a b (q1 - p1) (q2 - p2) (q3 - p3) else zero6, i64 (pqE p1 p2 p3 q1 q2 q3)], h) := by
  have k18 := fun lim hh a b c => c18 (d := d + 3) (lim := lim) (h := hh) (a := a) (b := b) (c := c)
  have k48 := fun lim hh a b c => c48 (d := d + 1) (lim := lim) (h := hh) (a := a) (b := b) (c := c)
  have k100 := fun lim hh a b c => c100 (d := d + 2) (lim := lim) (h := hh) (a := a) (b := b) (c := c)
  have k117 := fun lim hh a b c x y z => c117 (d := d + 3) (lim := lim) (h := hh) (a := a) (b := b) (c := c) (x := x) (y := y) (z := z)
  have wT : within a 0 b = true := by simp [within]; omega
  have nb : ¬ (10000000000 : Int) < b := by omega
  refine call1 fn54 rfl (by simp [ef54]) ?_
  unfold pqE
  rcases e1 : plB p1 p2 p3 with _ | _
  · simp [ef54, k18, k48, wT, nb, e1]
  rcases e2 : plB q1 q2 q3 with _ | _
  · simp [ef54, k18, k48, wT, nb, e1, e2]
  have b1 := plB_ok e1
  have b2 := plB_ok e2
  generalize hx : q1 - p1 = x at *
  generalize hy : q2 - p2 = y at *
  generalize hz : q3 - p3 = z at *
  have u1 : IntKind.wrap .i64 (q1 - p1) = x := by rw [hx]; exact wrap_eq (by omega) (by omega)
  have u2 : IntKind.wrap .i64 (q2 - p2) = y := by rw [hy]; exact wrap_eq (by omega) (by omega)
  have u3 : IntKind.wrap .i64 (q3 - p3) = z := by rw [hz]; exact wrap_eq (by omega) (by omega)
  rcases e3 : plB x y z with _ | _
  · simp [ef54, k18, k48, k100, k117, wT, nb, e1, e2, u1, u2, u3, e3]
  obtain ⟨bx, bY, bz⟩ := plB_ok e3
  by_cases e4 : x = 0 ∧ y = 0 ∧ z = 0
  · obtain ⟨rfl, rfl, rfl⟩ := e4
    have w0 : IntKind.wrap .i64 0 = 0 := rfl
    simp [ef54, k18, k48, k100, k117, wT, nb, e1, e2, u1, u2, u3, e3, w0]
  have R := RtOk.of bx bY bz e4
  have xx := sq_b bx
  have yy := sq_b bY
  have zz := sq_b bz
  have x0 := sq_nn x
  have y0 := sq_nn y
  have z0 := sq_nn z
  have big := R.big
  have k118 := fun lim hh => c118 (d := d + 2) (lim := lim) (h := hh) (n := sq3 x y z) (k := 2) ⟨by omega, by omega⟩ (by omega)
  have er : rootL (fun n => decide (n ^ 2 ≤ sq3 x y z)) 0 (sq3 x y z) = rtF (sq3 x y z) := rfl
  simp only [er, Int.cast_ofNat_Int] at k118
  have v1 : IntKind.wrap .i64 (x * x) = x * x := wrap_eq (by omega) (by omega)
  have v2 : IntKind.wrap .i64 (y * y) = y * y := wrap_eq (by omega) (by omega)
  have v3' : IntKind.wrap .i64 (z * z) = z * z := wrap_eq (by omega) (by omega)
  have v4 : IntKind.wrap .i64 (x * x + y * y) = x * x + y * y := wrap_eq (by omega) (by omega)
  have v5 : IntKind.wrap .i64 (x * x + y * y + z * z) = x * x + y * y + z * z := wrap_eq (by omega) (by omega)
  have v6 : IntKind.wrap .i64 (10000 * (x * x + y * y + z * z)) = sq3 x y z := by unfold sq3; exact wrap_eq (by omega) (by omega)
  have D0 : sq3 x y z ≠ 0 := by omega
  have s0 : rtF (sq3 x y z) ≠ 0 := by have := R.s; omega
  have s1 : rtU (sq3 x y z) ≠ 0 := by have := R.s; have := R.s'; omega
  have w1 : IntKind.wrap .i64 (rtF (sq3 x y z) * rtF (sq3 x y z)) = rtF (sq3 x y z) * rtF (sq3 x y z) := wrap_eq (by have := sq_nn (rtF (sq3 x y z)); omega) (by have := R.lo; omega)
  have uD : rtU (sq3 x y z) = if rtF (sq3 x y z) * rtF (sq3 x y z) < sq3 x y z then rtF (sq3 x y z) + 1 else rtF (sq3 x y z) := by
    have := R.lo
    unfold rtU
    split <;> split <;> omega
  have sle : rtF (sq3 x y z) ≤ 1000000000 := by
    rcases Int.lt_or_le 1000000000 (rtF (sq3 x y z)) with q | q
    · have : (1000000001 : Int) * 1000000001 ≤ rtF (sq3 x y z) * rtF (sq3 x y z) := Int.mul_le_mul (by omega) (by omega) (by omega) (by omega)
      have := R.lo
      omega
    · exact q
  have w2 : IntKind.wrap .i64 (rtF (sq3 x y z) + 1) = rtF (sq3 x y z) + 1 := wrap_eq (by have := R.s; omega) (by omega)
  have k119 := fun lim hh c hc => c119 (d := d) (lim := lim) (h := hh) (a := a) (b := b) (s := rtF (sq3 x y z)) (s' := rtU (sq3 x y z)) (c := c) hc s0 s1
  have kx := fun lim hh => k119 lim hh x bx
  have ky := fun lim hh => k119 lim hh y bY
  have kz := fun lim hh => k119 lim hh z bz
  unfold refV
  generalize rtF (sq3 x y z) = s at *
  generalize rtU (sq3 x y z) = s' at *
  generalize cmR a b s s' x = X at *
  generalize cmR a b s s' y = Y at *
  generalize cmR a b s s' z = Z at *
  generalize sq3 x y z = D at *
  simp only [e4, if_false, if_true]
  by_cases q : s * s < D
  · rw [if_pos q] at uD
    subst uD
    simp [ef54, k18, k48, k100, k117, wT, nb, e1, e2, u1, u2, u3, e3, v1, v2, v3', v4, v5, v6, D0, k118, w1, w2, q]
    rw [wpC_unroll, wpI_step (by simp [E_fuel'])]
    simp [St.tidy, kx]
    rw [wpI_step (by simp [E_fuel'])]
    simp [St.tidy, ky]
    rw [wpI_step (by simp [E_fuel'])]
    simp [St.tidy, kz]
    rw [wpI_step (by simp [E_fuel'])]
    simp [St.tidy]
  · rw [if_neg q] at uD
    subst uD
    simp [ef54, k18, k48, k100, k117, wT, nb, e1, e2, u1, u2, u3, e3, v1, v2, v3', v4, v5, v6, D0, k118, w1, w2, q]
    rw [wpC_unroll, wpI_step (by simp [E_fuel'])]
    simp [St.tidy, kx]
    rw [wpI_step (by simp [E_fuel'])]
    simp [St.tidy, ky]
    rw [wpI_step (by simp [E_fuel'])]
    simp [St.tidy, kz]
    rw [wpI_step (by simp [E_fuel'])]
    simp [St.tidy]
end X
end Go.Abs
/- The law TopLoadsBalance. -/
namespace Go.Abs
namespace X
set_option maxRecDepth 100000
set_option maxHeartbeats 0
theorem upm {a b c : Int} (h : a ≤ b) (hc : 0 < c) : up a c ≤ up b c := Int.ediv_le_ediv hc (by omega)
theorem ten_le {l : List Wi} {s : Sd} (O : SdOk l s) {f g : Int} (F : FOk f g) : 0 ≤ tenL l s f ∧ tenL l s f ≤ tenH l s g := by
  obtain ⟨f1, f2, f3⟩ := F
  obtain ⟨_, _, a1, a2, _, _, a5⟩ := way_bd O f1 (by omega)
  obtain ⟨_, _, _, _, b1, b2, _⟩ := way_bd O (show 1 ≤ g by omega) f3
  have c := O.len
  have w : wayH s f ≤ wayH s g := upm (Int.mul_le_mul_of_nonneg_right f2 (by omega)) (by decide)
  have m := mOf_bd O
  have q := sq_le a1 (show wayL s f ≤ wayH s g by omega)
  have s1 : sqL (wayL s f) ≤ sqH (wayH s g) := by
    unfold sqL sqH up
    exact Int.ediv_le_ediv (by decide) (by omega)
  obtain ⟨_, _, c1, c2⟩ := sqL_bd a1 a2
  have u : mOf l s / 10000 ≤ up (mOf l s) 10000 := by unfold up; omega
  have u0 : 0 ≤ mOf l s / 10000 := by omega
  have p : mOf l s / 10000 * sqL (wayL s f) ≤ up (mOf l s) 10000 * sqH (wayH s g) := Int.mul_le_mul u s1 c1 (by omega)
  have p0 : 0 ≤ mOf l s / 10000 * sqL (wayL s f) := Int.mul_nonneg u0 c1
  unfold tenL tenH
  generalize mOf l s / 10000 * sqL (wayL s f) = A at *
  generalize up (mOf l s) 10000 * sqH (wayH s g) = B at *
  unfold up
  omega
structure Vc where
  x : Int
  y : Int
  z : Int
def enc3 (p : Vc) : List Value := [i64 p.x, i64 p.y, i64 p.z]
def at3 (l : List Vc) (i : Nat) : Vc := l[i]?.getD ⟨0, 0, 0⟩
theorem at3_get {l : List Vc} {i : Nat} (h : i < l.length) : l[i] = at3 l i := by unfold at3; rw [List.getElem?_eq_getElem h]; rfl
abbrev SlV (h : Heap) (v : Value) (l : List Vc) : Prop := Sl 3 h v l.length (cS enc3 l)
theorem c3_part {l : List Vc} {i : Nat} (h : i < l.length) : ((cS enc3 l).drop (i * 3)).take 3 = [i64 (at3 l i).x, i64 (at3 l i).y, i64 (at3 l i).z] := by
  rw [cS_part (f := enc3) (es := 3) (fun _ => rfl) l i h, at3_get h]; rfl
def rev (p : XR) : XR := (-p.2, -p.1)
/-- Sums of squares over the first components. -/
def mnS (L : List XR) : Nat → Int
  | 0 => 0
  | k + 1 => mnS L k + mnP (atR L k) * mnP (atR L k)
def mxS (L : List XR) : Nat → Int
  | 0 => 0
  | k + 1 => mxS L k + mxP (atR L k) * mxP (atR L k)
/-- What holds of a pull. -/
structure PlOk (a b : Int) (L M : List XR) : Prop where
  l : L.length = 3
  m : M.length = 3
  r : ∀ k, k < 3 → atR M k = rev (atR L k)
  bd : ∀ k, k < 3 → -2000000 ≤ (atR L k).1 ∧ (atR L k).1 ≤ (atR L k).2 ∧ (atR L k).2 ≤ 2000000
  n : ∀ k, k < 3 → 0 ≤ mnP (atR L k) ∧ mnP (atR L k) ≤ 2000000 ∧ 0 ≤ mxP (atR L k) ∧ mxP (atR L k) ≤ 2000000
  mn : mnS L 3 ≤ b * b
  mx : a * a ≤ mxS L 3
def plL (a b x y z : Int) : List XR := [cmpV a b (rtF (sq3 x y z)) (rtU (sq3 x y z)) x, cmpV a b (rtF (sq3 x y z)) (rtU (sq3 x y z)) y, cmpV a b (rtF (sq3 x y z)) (rtU (sq3 x y z)) z]
theorem PlOk.of {a b x y z : Int} (hab : 0 ≤ a ∧ a ≤ b ∧ b ≤ 1000000) (bx : -1000000 ≤ x ∧ x ≤ 1000000) (bY : -1000000 ≤ y ∧ y ≤ 1000000) (bz : -1000000 ≤ z ∧ z ≤ 1000000) (ne : ¬ (x = 0 ∧ y = 0 ∧ z = 0)) : PlOk a b (plL a b x y z) (plL a b (-x) (-y) (-z)) := by
  have R := RtOk.of bx bY bz ne
  have es : sq3 (-x) (-y) (-z) = sq3 x y z := by unfold sq3; rw [Int.neg_mul_neg, Int.neg_mul_neg, Int.neg_mul_neg]
  unfold plL
  rw [es]
  have lo := R.lo
  have hi := R.hi
  have hs := R.s
  have hs' := R.s'
  obtain ⟨x1, x2, x3, x4, x5, x6, x7, x8⟩ := cmp_ok hab hs hs'.1 bx R.bx
  obtain ⟨y1, y2, y3, y4, y5, y6, y7, y8⟩ := cmp_ok hab hs hs'.1 bY R.bY
  obtain ⟨z1, z2, z3, z4, z5, z6, z7, z8⟩ := cmp_ok hab hs hs'.1 bz R.bz
  have S := sum_ok (s := rtF (sq3 x y z)) (s' := rtU (sq3 x y z)) ⟨hab.1, hab.2.1⟩ (by omega) hs'.1 lo hi ⟨x3, y3, z3⟩ x4 y4 z4 x5 y5 z5
  have lt3 : ∀ k, k < 3 → k = 0 ∨ k = 1 ∨ k = 2 := fun k h => by omega
  refine ⟨rfl, rfl, fun k hk => ?_, fun k hk => ?_, fun k hk => ?_, ?_, ?_⟩
  · rcases lt3 k hk with rfl | rfl | rfl
    · exact x2
    · exact y2
    · exact z2
  · rcases lt3 k hk with rfl | rfl | rfl
    · exact x1
    · exact y1
    · exact z1
  · rcases lt3 k hk with rfl | rfl | rfl
    · exact ⟨x3, x7, x6, x8⟩
    · exact ⟨y3, y7, y6, y8⟩
    · exact ⟨z3, z7, z6, z8⟩
  · have := S.1
    show 0 + _ * _ + _ * _ + _ * _ ≤ _
    rw [Int.zero_add]; exact this
  · have := S.2
    show _ ≤ 0 + _ * _ + _ * _ + _ * _
    rw [Int.zero_add]; exact this
theorem mn_bd {a b : Int} {L M : List XR} (K : PlOk a b L M) : ∀ k, k ≤ 3 → (0 ≤ mnS L k ∧ mnS L k ≤ k * 4000000000000) ∧ 0 ≤ mxS L k ∧ mxS L k ≤ k * 4000000000000
  | 0, _ => by simp [mnS, mxS]
  | k + 1, h => by
    have ih := mn_bd K k (by omega)
    obtain ⟨n1, n2, n3, n4⟩ := K.n k (by omega)
    have p := mulB n1 n2 n1 n2
    have q := mulB n3 n4 n3 n4
    simp only [mnS, mxS]
    omega
end X
end Go.Abs
/- The law TopLoadsBalance: one pull and its opposite. -/
namespace Go.Abs
namespace X
set_option maxRecDepth 100000
set_option maxHeartbeats 0
theorem plL_cells (a b x y z : Int) : cS encR (plL a b x y z) = [i64 (cmpV a b (rtF (sq3 x y z)) (rtU (sq3 x y z)) x).1, i64 (cmpV a b (rtF (sq3 x y z)) (rtU (sq3 x y z)) x).2, i64 (cmpV a b (rtF (sq3 x y z)) (rtU (sq3 x y z)) y).1, i64 (cmpV a b (rtF (sq3 x y z)) (rtU (sq3 x y z)) y).2, i64 (cmpV a b (rtF (sq3 x y z)) (rtU (sq3 x y z)) z).1, i64 (cmpV a b (rtF (sq3 x y z)) (rtU (sq3 x y z)) z).2] := rfl
abbrev qP (p q : Value) : Option Blk := some ⟨[p, q], true⟩
theorem c10 {d lim : Nat} {h : Heap} {v w p q : Value} {wl : List Wi} {l : List Un} {P Q : List Vc} {t : Int} (sp : Pr h) (s : SlW h v wl) (qn : SlN h w l) (sP : SlV h p P) (sQ : SlV h q Q) :
    E.call (d + 10) lim 10 [stV t v w, .agg #[p, q]] h = some (.bool true, h) := by
  have rs := s.rules2
  have r := qn.rules2
  have rP := sP.rules2
  have rQ := sQ.rules2
  have so := s.own
  have qo := qn.own
  have po := sP.own
  have Qo := sQ.own
  have k12 := fun lim A => c12 (d := d + 1) (lim := lim) ((Sl_freeze.2 sp).app A)
  have k20 := fun lim A => c20 (d := d + 7) (lim := lim) (t := t) ((Sl_freeze.2 s).app A) ((Sl_freeze.2 qn).app A)
  refine call1 fn10 rfl (by simp [ef10]) ?_
  rcases fw : fewB wl l with _ | _
  · simp [ef10, k12, k20, fw]
  obtain ⟨lw, hnm, l6⟩ := few_ok fw
  by_cases hP : P.length ≠ l.length
  · have iP : ¬ ((P.length : Int) = l.length) := by omega
    simp [ef10, k12, k20, fw, rP, r, hP, iP]
  have hP' : P.length = l.length := by omega
  by_cases hQ : Q.length ≠ l.length
  · have iQ : ¬ ((Q.length : Int) = l.length) := by omega
    simp [ef10, k12, k20, fw, rP, rQ, r, hP', hQ, iQ]
  have hQ' : Q.length = l.length := by omega
  have k26 := fun lim A => c26 (d := d + 3) (lim := lim) (t := t) ((Sl_freeze.2 s).app A) ((Sl_freeze.2 qn).app A) (by omega)
  by_cases he : (stE t wl l).2 ≠ 0
  · simp [ef10, k12, k20, fw, rP, rQ, r, hP', hQ', k26, he]
  have he' : (stE t wl l).2 = 0 := by omega
  have O := StOk.of he'
  have k23 := fun lim A => c23 (d := d) (lim := lim) (t := t) ((Sl_freeze.2 sp).app A) ((Sl_freeze.2 s).app A) ((Sl_freeze.2 qn).app A) (by omega) hnm he'
  unfold newV newK at k23
  rw [mapU_len] at k23
  rcases Nat.eq_zero_or_pos l.length with z | z
  · simp only [if_pos z] at k23
    have z' : (l.length : Int) = 0 := by omega
    simp [ef10, k12, k20, fw, rP, rQ, r, hP', hQ', k26, he', k23, z, z']
    rw [wpC_unroll, wpI_step (by simp [E_fuel'])]
    simp [-collect_own1, St.tidy, collect_box, so, qo, po, Qo, rs, r, rP, rQ]
  have zi : l.length ≠ 0 := by omega
  have ne : l ≠ [] := fun e => zi (by rw [e]; rfl)
  simp only [if_neg zi] at k23
  have pl := cR_plain (mapU (ten wl t) l)
  have cl := cR_len (mapU (ten wl t) l)
  rw [mapU_len] at cl
  simp [ef10, k12, k20, fw, rP, rQ, r, hP', hQ', k26, he', k23]
  refine wpC_loop (fun y st => ∃ i, y = l.length - i ∧ i ≤ l.length ∧ st = ⟨[(3, .pointer (some ⟨h.length, 0, none⟩)), (7, .slice (some ⟨h.length + 1, 0, none⟩) l.length 2), (9, i64 (i : Nat))],
    h.freeze ++ [qP p q, some ⟨cS encR (mapU (ten wl t) l), true⟩]⟩) l.length (by show l.length < 2 ^ 64; omega) ?_ ?_
  · simp [-collect_own1, St.tidy, collect_box, so, qo, po, Qo, rs, r, rP, rQ, pl]
    exact ⟨0, by omega, by omega, rfl⟩
  · rintro y hy _ ⟨i, rfl, hi, rfl⟩
    by_cases hlt : i < l.length
    · have w1' := w1 (i := i) (by omega)
      simp only [W] at w1'
      have hlti : (i : Int) < l.length := by omega
      have hm : i < (mapU (ten wl t) l).length := by rw [mapU_len]; exact hlt
      obtain ⟨a0, a1⟩ := cR_j hm
      have pT := cR_part hm
      rw [mapU_at hlt] at a0 a1 pT
      have U := O.u i hlt
      obtain ⟨t0, t1⟩ := ten_le U.sd U.f
      have tn : ten wl t (atN l i) = (tenL wl (atN l i).sd (fL (atN l i) t), tenH wl (atN l i).sd (fH (atN l i) t)) := rfl
      generalize hA : (ten wl t (atN l i)).1 = a at *
      generalize hB : (ten wl t (atN l i)).2 = b at *
      have ea : 0 ≤ a ∧ a ≤ b := by rw [tn] at hA hB; simp only at hA hB; omega
      have v0 : ∀ hh, (cS encR (mapU (ten wl t) l))[i * 2]'hh = .int .i64 a := fun hh => by have := List.getElem?_eq_getElem hh; rw [a0] at this; exact (Option.some.inj this).symm
      have v1 : ∀ hh, (cS encR (mapU (ten wl t) l))[i * 2 + 1]'hh = .int .i64 b := fun hh => by have := List.getElem?_eq_getElem hh; rw [a1] at this; exact (Option.some.inj this).symm
      have k0 : i * 2 < l.length * 2 := by omega
      have k1 : i * 2 + 1 < l.length * 2 := by omega
      have k2 : i * 2 + 2 ≤ l.length * 2 := by omega
      have k3 : i * 3 + 3 ≤ l.length * 3 := by omega
      have pP := c3_part (l := P) (i := i) (by omega)
      have pQ := c3_part (l := Q) (i := i) (by omega)
      have iP : (i : Int) < P.length := by omega
      have iQ : (i : Int) < Q.length := by omega
      have k3P : i * 3 + 3 ≤ P.length * 3 := by omega
      have k3Q : i * 3 + 3 ≤ Q.length * 3 := by omega
      generalize at3 P i = e1 at *
      generalize at3 Q i = e2 at *
      obtain ⟨x1, y1, z1⟩ := e1
      obtain ⟨x2, y2, z2⟩ := e2
      simp only at pP pQ
      by_cases hb : 1000000 < b
      · simp [hlt, Nat.not_le.2 hlt, hlti, cl, k1, a1, v1, hb]
      have hab : 0 ≤ a ∧ a ≤ b ∧ b ≤ 1000000 := by omega
      by_cases e : pqE x1 y1 z1 x2 y2 z2 ≠ 0
      · have e' : pqE x2 y2 z2 x1 y1 z1 ≠ 0 := fun q => e (pqE_sym q)
        have ka := fun lim hh => c53a (d := d + 3) (lim := lim) (h := hh) hab e
        have kb := fun lim hh => c53a (d := d + 3) (lim := lim) (h := hh) hab e'
        have kc := fun lim hh => c54 (d := d + 4) (lim := lim) (h := hh) (p1 := x1) (p2 := y1) (p3 := z1) (q1 := x2) (q2 := y2) (q3 := z2) hab
        simp only [if_neg e] at kc
        simp [hlt, Nat.not_le.2 hlt, hlti, cl, k1, k2, a1, v1, pT, hb, Int.not_lt.1 hb, rP, rQ, pP, pQ, iP, iQ, k3P, k3Q, ka, kb, kc, e, e']
      have e0 : pqE x1 y1 z1 x2 y2 z2 = 0 := by omega
      have e0' := pqE_sym e0
      have ka := fun lim hh => c53 (d := d + 3) (lim := lim) (h := hh) hab e0
      have kb := fun lim hh => c53 (d := d + 3) (lim := lim) (h := hh) hab e0'
      have kc := fun lim hh => c54 (d := d + 4) (lim := lim) (h := hh) (p1 := x1) (p2 := y1) (p3 := z1) (q1 := x2) (q2 := y2) (q3 := z2) hab
      simp only [if_pos e0, e0] at kc
      have K : PlOk a b (plL a b (x2 - x1) (y2 - y1) (z2 - z1)) (plL a b (x1 - x2) (y1 - y2) (z1 - z2)) := by
        unfold pqE at e0
        split at e0
        · cases e0
        split at e0
        · cases e0
        split at e0
        · cases e0
        rename_i c3
        split at e0
        · cases e0
        rename_i c4
        simp only [Bool.not_eq_false] at c3
        obtain ⟨bx, bY, bz⟩ := plB_ok c3
        have := PlOk.of hab bx bY bz c4
        rwa [Int.neg_sub, Int.neg_sub, Int.neg_sub] at this
      have cA := plL_cells a b (x2 - x1) (y2 - y1) (z2 - z1)
      have cB := plL_cells a b (x1 - x2) (y1 - y2) (z1 - z2)
      unfold pulV at ka kb
      unfold refV at kc
      generalize cmpV a b (rtF (sq3 (x2 - x1) (y2 - y1) (z2 - z1))) (rtU (sq3 (x2 - x1) (y2 - y1) (z2 - z1))) (x2 - x1) = A1 at *
      generalize cmpV a b (rtF (sq3 (x2 - x1) (y2 - y1) (z2 - z1))) (rtU (sq3 (x2 - x1) (y2 - y1) (z2 - z1))) (y2 - y1) = A2 at *
      generalize cmpV a b (rtF (sq3 (x2 - x1) (y2 - y1) (z2 - z1))) (rtU (sq3 (x2 - x1) (y2 - y1) (z2 - z1))) (z2 - z1) = A3 at *
      generalize cmpV a b (rtF (sq3 (x1 - x2) (y1 - y2) (z1 - z2))) (rtU (sq3 (x1 - x2) (y1 - y2) (z1 - z2))) (x1 - x2) = B1 at *
      generalize cmpV a b (rtF (sq3 (x1 - x2) (y1 - y2) (z1 - z2))) (rtU (sq3 (x1 - x2) (y1 - y2) (z1 - z2))) (y1 - y2) = B2 at *
      generalize cmpV a b (rtF (sq3 (x1 - x2) (y1 - y2) (z1 - z2))) (rtU (sq3 (x1 - x2) (y1 - y2) (z1 - z2))) (z1 - z2) = B3 at *
      generalize plL a b (x2 - x1) (y2 - y1) (z2 - z1) = L at *
      generalize plL a b (x1 - x2) (y1 - y2) (z1 - z2) = M at *
      simp [hlt, Nat.not_le.2 hlt, hlti, cl, k1, k2, a1, v1, pT, hb, Int.not_lt.1 hb, rP, rQ, pP, pQ, iP, iQ, k3P, k3Q, ka, kb, kc]
      have k18 := fun lim hh a b c => c18 (d := d + 8) (lim := lim) (h := hh) (a := a) (b := b) (c := c)
      have k55 := fun lim hh a => c55 (d := d + 8) (lim := lim) (h := hh) (a := a)
      have pL := cR_plain L
      have pM := cR_plain M
      have lL : (cS encR L).length = 6 := by rw [cR_len, K.l]
      have lM : (cS encR M).length = 6 := by rw [cR_len, K.m]
      refine wpC_loop (fun y st => ∃ k : Nat, y = 3 - k ∧ k ≤ 3 ∧ st = ⟨[(3, .pointer (some ⟨h.length, 0, none⟩)), (7, .slice (some ⟨h.length + 1, 0, none⟩) l.length 2), (9, i64 (i : Nat)), (10, .pointer (some ⟨h.length + 2, 0, none⟩)), (12, .pointer (some ⟨h.length + 3, 0, none⟩)), (16, i64 (mnS L k)), (17, i64 (mxS L k)), (18, i64 (k : Int))],
        h.freeze ++ [qP p q, some ⟨cS encR (mapU (ten wl t) l), true⟩, some ⟨cS encR L, true⟩, some ⟨cS encR M, true⟩]⟩) 3 (by show 3 < 2 ^ 64; omega) ?_ ?_
      · simp [-collect_own1, St.tidy, collect_box, so, qo, po, Qo, rs, r, rP, rQ, pl]
        refine ⟨0, by omega, by omega, ?_, cA.symm, cB.symm⟩
        exact ⟨rfl, rfl, rfl⟩
      · rintro y2 hy2 _ ⟨k, rfl, hk, rfl⟩
        by_cases hk3 : k < 3
        · have w1k := w1 (i := k) (by omega)
          simp only [W] at w1k
          have hki : (k : Int) < 3 := by omega
          have pk := cR_part (l := L) (i := k) (by rw [K.l]; exact hk3)
          obtain ⟨m0, m1⟩ := cR_j (l := M) (i := k) (by rw [K.m]; exact hk3)
          rw [K.r k hk3] at m0 m1
          have vm0 : ∀ hh, (cS encR M)[k * 2]'hh = .int .i64 (-(atR L k).2) := fun hh => by have := List.getElem?_eq_getElem hh; rw [m0] at this; exact (Option.some.inj this).symm
          have vm1 : ∀ hh, (cS encR M)[k * 2 + 1]'hh = .int .i64 (-(atR L k).1) := fun hh => by have := List.getElem?_eq_getElem hh; rw [m1] at this; exact (Option.some.inj this).symm
          have kk0 : k * 2 < 6 := by omega
          have kk1 : k * 2 + 1 < 6 := by omega
          have kk2 : k * 2 + 2 ≤ 6 := by omega
          have bd := K.bd k hk3
          have nn := K.n k hk3
          have sb := mn_bd K k (by omega)
          have sb2 := mn_bd K (k + 1) (by omega)
          have q1 := mulB nn.1 nn.2.1 nn.1 nn.2.1
          have q2 := mulB nn.2.2.1 nn.2.2.2 nn.2.2.1 nn.2.2.2
          have eS : mnS L (k + 1) = mnS L k + mnP (atR L k) * mnP (atR L k) := rfl
          have eX : mxS L (k + 1) = mxS L k + mxP (atR L k) * mxP (atR L k) := rfl
          have u1 : IntKind.wrap .i64 (mnP (atR L k) * mnP (atR L k)) = mnP (atR L k) * mnP (atR L k) := wrap_eq (by omega) (by omega)
          have u2 : IntKind.wrap .i64 (mxP (atR L k) * mxP (atR L k)) = mxP (atR L k) * mxP (atR L k) := wrap_eq (by omega) (by omega)
          have u3 : IntKind.wrap .i64 (mnS L k + mnP (atR L k) * mnP (atR L k)) = mnS L (k + 1) := by rw [← eS, wrap_eq (by omega) (by omega)]
          have u4 : IntKind.wrap .i64 (mxS L k + mxP (atR L k) * mxP (atR L k)) = mxS L (k + 1) := by rw [← eX, wrap_eq (by omega) (by omega)]
          have wv : within (atR L k).1 (-2000000) (atR L k).2 = true := by simp [within]; omega
          have nb2 : ¬ 2000000 < (atR L k).2 := by omega
          have em : mxP (atR L k) = max (absV (atR L k).1) (absV (atR L k).2) := rfl
          simp only [rev] at m0 m1
          generalize hu : atR L k = u at *
          by_cases q : u.1 ≤ 0 ∧ 0 ≤ u.2
          · have en : mnP u = 0 := by unfold mnP; rw [if_pos q]
            rw [en] at u1 u3
            simp only [Int.mul_zero, Int.add_zero] at u3
            rw [em] at u2 u4
            simp [-collect_own1, hk3, hki, lL, lM, pk, kk0, kk1, kk2, m0, m1, vm0, vm1, k18, k55, wv, nb2, wr0, Int.add_right_neg, q.1, q.2, u2, u3, u4, w1k, St.tidy, collect_box, so, qo, po, Qo, rs, r, rP, rQ, pl, pL, pM, Nat.add_assoc]
            exact ⟨3 - (k + 1), by omega, k + 1, by omega, by omega, rfl, rfl, by omega⟩
          · have en : mnP u = min (absV u.1) (absV u.2) := by unfold mnP; rw [if_neg q]
            rw [en] at u1 u3
            rw [em] at u2 u4
            have q' : ¬ (u.1 ≤ 0 ∧ 0 ≤ u.2) := q
            by_cases qa : u.1 ≤ 0
            · have qb : ¬ 0 ≤ u.2 := fun z => q ⟨qa, z⟩
              simp [-collect_own1, hk3, hki, lL, lM, pk, kk0, kk1, kk2, m0, m1, vm0, vm1, k18, k55, wv, nb2, wr0, Int.add_right_neg, qa, qb, u1, u2, u3, u4, w1k, St.tidy, collect_box, so, qo, po, Qo, rs, r, rP, rQ, pl, pL, pM, Nat.add_assoc]
              exact ⟨3 - (k + 1), by omega, k + 1, by omega, by omega, rfl, rfl, by omega⟩
            · simp [-collect_own1, hk3, hki, lL, lM, pk, kk0, kk1, kk2, m0, m1, vm0, vm1, k18, k55, wv, nb2, wr0, Int.add_right_neg, qa, u1, u2, u3, u4, w1k, St.tidy, collect_box, so, qo, po, Qo, rs, r, rP, rQ, pl, pL, pM, Nat.add_assoc]
              exact ⟨3 - (k + 1), by omega, k + 1, by omega, by omega, rfl, rfl, by omega⟩
        · obtain rfl : k = 3 := by omega
          have mnb := K.mn
          have mxb := K.mx
          have bb := mulB (a := b) (b := b) (A := 1000000) (B := 1000000) (by omega) (by omega) (by omega) (by omega)
          have aa := mulB (a := a) (b := a) (A := 1000000) (B := 1000000) (by omega) (by omega) (by omega) (by omega)
          have wbb : IntKind.wrap .i64 (b * b) = b * b := wrap_eq (by omega) (by omega)
          have waa : IntKind.wrap .i64 (a * a) = a * a := wrap_eq (by omega) (by omega)
          have n1 : ¬ b * b < mnS L 3 := by omega
          have n2 : ¬ mxS L 3 < a * a := by omega
          simp [-collect_own1, cl, k0, k1, a0, a1, v0, v1, wbb, waa, n1, n2, mnb, mxb, w1', St.tidy, collect_box, so, qo, po, Qo, rs, r, rP, rQ, pl, Nat.add_assoc]
          exact ⟨hlt, l.length - (i + 1), by omega, i + 1, by omega, by omega, by omega⟩
    · obtain rfl : i = l.length := by omega
      simp
end X
end Go.Abs
