/- CheckLine of the reference. -/
import Derived.Test.YtjalhpdmdiimoaaDoorAbsNO2
set_option linter.unusedSimpArgs false
set_option linter.unusedVariables false
namespace Go.Abs.N
open Go Go.Abs
set_option maxRecDepth 100000
set_option maxHeartbeats 0
theorem absV_max {x : Int} (h : R64 x) : absV x = max x (IntKind.wrap .i64 (-x)) := by
  unfold absV
  unfold R64 at h
  rw [wrapD]
  split <;> split <;> omega
theorem R64_wrong (U sN sD pN pD x y : Int) : R64 (wrongV U sN sD pN pD x y) := by unfold wrongV; simp
/-- The reference's step to a common denominator. -/
def refU (u d : Int) : Int := IntKind.wrap .i64 (IntKind.wrap .i64 (qdiv u (gcdL u d)) * d)
theorem lcm_step {u d : Int} (hu : 1 ≤ u ∧ u ≤ 40000) (hd : 1 ≤ d ∧ d ≤ 1000000000) : refU u d = commU u d ∧ d ≤ commU u d ∧ 1 ≤ commU u d := by
  have hg := gcdL_eq (a := u) (b := d) ⟨by omega, by omega⟩ ⟨by omega, by omega⟩
  have hpos : 0 < Int.gcd u d := Int.gcd_pos_of_ne_zero_right _ (by omega)
  have h2 : Int.gcd u d ≤ u.natAbs := Nat.le_of_dvd (by omega) (by rw [Int.gcd_eq_natAbs_gcd_natAbs]; exact Nat.gcd_dvd_left _ _)
  have hg' : gcdL u d = (Int.gcd u d : Int) := by rw [hg]; exact wrap_eq (by omega) (by omega)
  obtain ⟨x, hx⟩ := Int.gcd_dvd_left u d
  obtain ⟨y, hy⟩ := Int.gcd_dvd_right u d
  generalize hgg : (Int.gcd u d : Int) = g at *
  have hg0 : 0 < g := by omega
  have q1 : u.tdiv g = x := by rw [hx]; exact Int.mul_tdiv_cancel_left _ (by omega)
  have q2 : d.tdiv g = y := by rw [hy]; exact Int.mul_tdiv_cancel_left _ (by omega)
  have ypos : 0 < y := by
    rcases Int.lt_or_le 0 y with h | h
    · exact h
    · have : g * y ≤ 0 := Int.mul_nonpos_of_nonneg_of_nonpos (by omega) h
      omega
  have xpos : 0 < x := by
    rcases Int.lt_or_le 0 x with h | h
    · exact h
    · have : g * x ≤ 0 := Int.mul_nonpos_of_nonneg_of_nonpos (by omega) h
      omega
  have yle : y ≤ d := by
    have : 1 * y ≤ g * y := Int.mul_le_mul_of_nonneg_right (by omega) (by omega)
    omega
  have xle : x ≤ u := by
    have : 1 * x ≤ g * x := Int.mul_le_mul_of_nonneg_right (by omega) (by omega)
    omega
  have e : u * y = x * d := by
    conv => lhs; rw [hx]
    conv => rhs; rw [hy]
    rw [Int.mul_comm g x, Int.mul_assoc]
  have b1 : u * y ≤ 40000 * 1000000000 := Int.mul_le_mul (by omega) (by omega) (by omega) (by omega)
  have b2 : 1 * d ≤ x * d := Int.mul_le_mul_of_nonneg_right (by omega) (by omega)
  have r1 : commU u d = u * y := by
    unfold commU qdiv
    rw [hg', q2, wrap_eq (n := y) (by omega) (by omega), wrap_eq (by omega) (by omega)]
  have r2 : refU u d = x * d := by
    unfold refU qdiv
    rw [hg', q1, wrap_eq (n := x) (by omega) (by omega), wrap_eq (by omega) (by omega)]
  rw [r1, r2]
  omega
theorem checkFrac_d {n m : Int} (h : checkFrac n m = 0) : 1 ≤ m ∧ m ≤ 1000000000 := by
  unfold checkFrac within at h; simp at h; grind
/-- The errors at the first dots. -/
def errs (l : D2) (U sN sD pN pD : Int) (q : Nat) : List Int := (List.range q).map fun n => wrongV U sN sD pN pD (dx l n) (dy l n)
theorem errs_succ (l : D2) (U sN sD pN pD : Int) (q : Nat) : errs l U sN sD pN pD (q + 1) = errs l U sN sD pN pD q ++ [wrongV U sN sD pN pD (dx l q) (dy l q)] := by
  unfold errs; rw [List.range_succ, List.map_append]; rfl
theorem errs_len (l : D2) (U sN sD pN pD : Int) (q : Nat) : (errs l U sN sD pN pD q).length = q := by simp [errs]
theorem errs_get {l : D2} {U sN sD pN pD : Int} {q n : Nat} (h : n < q) : (errs l U sN sD pN pD q)[n]? = some (wrongV U sN sD pN pD (dx l n) (dy l n)) := by simp [errs, h]
theorem cIerrs_get {l : D2} {U sN sD pN pD : Int} {q n : Nat} (h : n < (cI (errs l U sN sD pN pD q)).length) : (cI (errs l U sN sD pN pD q))[n]'h = .int .i64 (wrongV U sN sD pN pD (dx l n) (dy l n)) := by simp [cI, errs]
theorem neg_flip {a b : Int} (ha : R64 a) (hb : R64 b) : a = IntKind.wrap .i64 (-b) ↔ b = IntKind.wrap .i64 (-a) := by
  unfold R64 at ha hb
  rw [wrapD, wrapD]
  constructor <;> intro h <;> split <;> split at h <;> omega
theorem c57 {d lim : Nat} {h : Heap} {v : Value} {l : D2} {sN sD pN pD eN eD i j k : Int} (s : SlD h v l) (hd : dotsV l = 0) (h1 : checkFrac sN sD = 0) (h2 : checkFrac pN pD = 0) (h3 : checkFrac eN eD = 0) (r1 : R64 sD) (r2 : R64 pD) (r3 : R64 eD) :
    E.call (d + 3) lim 57 [v, tv sN sD pN pD eN eD i j k] h = some (i64 (lineE l sN sD pN pD eN eD i j k), h) := by
  have r := s.rules2
  refine call1 fn57 rfl (by simp [ef57]) ?_
  have D := dots_ok hd
  have hn := D.n3
  have hm60 := D.n60
  obtain ⟨bk, of, rfl⟩ : ∃ b o, v = .slice (some ⟨b, o, none⟩) l.length 2 := ⟨_, _, s.addr (by omega)⟩
  have hb := s.lt (by omega)
  simp only [slB_some, slO_some] at r hb
  have u1 := fun C => @wpC_unroll C (some [0, 3, 5, 23, 24])
  have u2 := fun C => @wpC_unroll C (some [0, 3, 5, 8])
  have d1 := den0 h1; have d2 := den0 h2; have d3 := den0 h3
  have b1 := checkFrac_d h1; have b2 := checkFrac_d h2; have b3 := checkFrac_d h3
  have g1 := gcdL_ne R64_1 r1 d1
  have g2 := gcdL_ne (R64_commU 1 sD) r2 d2
  have g3 := gcdL_ne (R64_commU (commU 1 sD) pD) r3 d3
  have e1 : IntKind.wrap .i64 (IntKind.wrap .i64 (qdiv 1 (gcdL 1 sD)) * sD) = commU 1 sD := (lcm_step (by omega) b1).1
  obtain ⟨_, f2, f3'⟩ := lcm_step (u := 1) (by omega) b1
  by_cases t1 : 40000 < commU 1 sD
  · have hE : commE sD pD eD = 8 := by simp [commE, t1]
    by_cases t0 : 40000 < sD
    · simp [ef57, r, hb, u1, wpI_step, E_fuel, St.tidy, lineE, f3, hd, h1, h2, h3, hE, t0, Int.not_le.2 t0]
    · simp [ef57, r, hb, u1, wpI_step, E_fuel, St.tidy, lineE, f3, hd, h1, h2, h3, hE, t0, Int.not_lt.1 t0, c111 r1, g1, e1, t1, Int.not_le.2 t1]
  · have t0 : ¬ 40000 < sD := by omega
    obtain ⟨e2, f4, f5⟩ := lcm_step (u := commU 1 sD) (d := pD) (by omega) b2
    by_cases t2 : 40000 < commU (commU 1 sD) pD
    · have hE : commE sD pD eD = 8 := by simp [commE, t2]
      have e2' : IntKind.wrap .i64 (IntKind.wrap .i64 (qdiv (commU 1 sD) (gcdL (commU 1 sD) pD)) * pD) = commU (commU 1 sD) pD := e2
      by_cases p0 : 40000 < pD
      · simp [ef57, r, hb, u1, u2, wpI_step, E_fuel, St.tidy, t0, Int.not_lt.1 t0, c111 r1, g1, e1, t1, Int.not_lt.1 t1, p0, Int.not_le.2 p0, lineE, f3, hd, h1, h2, h3, hE]
      · simp [ef57, r, hb, u1, u2, wpI_step, E_fuel, St.tidy, t0, Int.not_lt.1 t0, c111 r1, g1, e1, t1, Int.not_lt.1 t1, p0, Int.not_lt.1 p0, c111 r2, g2, e2', t2, Int.not_le.2 t2, lineE, f3, hd, h1, h2, h3, hE]
    · have p0 : ¬ 40000 < pD := by omega
      have e2' : IntKind.wrap .i64 (IntKind.wrap .i64 (qdiv (commU 1 sD) (gcdL (commU 1 sD) pD)) * pD) = commU (commU 1 sD) pD := e2
      obtain ⟨e3, f6, f7⟩ := lcm_step (u := commU (commU 1 sD) pD) (d := eD) (by omega) b3
      have e3' : IntKind.wrap .i64 (IntKind.wrap .i64 (qdiv (commU (commU 1 sD) pD) (gcdL (commU (commU 1 sD) pD) eD)) * eD) = commU (commU (commU 1 sD) pD) eD := e3
      by_cases t3 : 40000 < commU (commU (commU 1 sD) pD) eD
      · have hE : commE sD pD eD = 8 := by simp [commE, t3]
        by_cases z0 : 40000 < eD
        · simp [ef57, r, hb, u1, u2, wpI_step, E_fuel, St.tidy, t0, Int.not_lt.1 t0, c111 r1, g1, e1, t1, Int.not_lt.1 t1, c111 r2, g2, e2', t2, p0, Int.not_lt.1 p0, Int.not_lt.1 t2, z0, Int.not_le.2 z0, lineE, f3, hd, h1, h2, h3, hE]
        · simp [ef57, r, hb, u1, u2, wpI_step, E_fuel, St.tidy, t0, Int.not_lt.1 t0, c111 r1, g1, e1, t1, Int.not_lt.1 t1, c111 r2, g2, e2', t2, p0, Int.not_lt.1 p0, Int.not_lt.1 t2, z0, Int.not_lt.1 z0, c111 r3, g3, e3', t3, Int.not_le.2 t3, lineE, f3, hd, h1, h2, h3, hE]
      · have z0 : ¬ 40000 < eD := by omega
        have hE : commE sD pD eD = 0 := by simp [commE, t1, t2, t3]
        have hV : commV sD pD eD = commU (commU (commU 1 sD) pD) eD := by simp [commV, t1, t2, t3]
        have w1 : IntKind.wrap .i64 ((l.length : Int) - 1) = l.length - 1 := wrap_eq (by omega) (by omega)
        by_cases h5 : idx3 l.length i j k = true
        · have hx := h5
          simp only [idx3, Bool.and_eq_true] at hx
          obtain ⟨⟨a1, a2⟩, a3⟩ := hx
          by_cases h6 : j ≤ i ∨ k ≤ j
          · by_cases q : j ≤ i
            · simp [ef57, r, hb, u1, u2, wpI_step, E_fuel, St.tidy, t0, Int.not_lt.1 t0, c111 r1, g1, e1, t1, Int.not_lt.1 t1, c111 r2, g2, e2', t2, p0, Int.not_lt.1 p0, Int.not_lt.1 t2, c111 r3, g3, e3', t3, z0, Int.not_lt.1 z0, Int.not_lt.1 t3, c22, w1, a1, a2, a3, q, Int.not_lt.2 q, lineE, f3, hd, h1, h2, h3, hE, h5]
            · have q' := h6.resolve_left q
              simp [ef57, r, hb, u1, u2, wpI_step, E_fuel, St.tidy, t0, Int.not_lt.1 t0, c111 r1, g1, e1, t1, Int.not_lt.1 t1, c111 r2, g2, e2', t2, p0, Int.not_lt.1 p0, Int.not_lt.1 t2, c111 r3, g3, e3', t3, z0, Int.not_lt.1 z0, Int.not_lt.1 t3, c22, w1, a1, a2, a3, q, Int.not_le.1 q, q', Int.not_lt.2 q', lineE, f3, hd, h1, h2, h3, hE, h5]
          · obtain ⟨i, rfl⟩ : ∃ m : Nat, i = m := ⟨i.toNat, by simp [within] at a1; omega⟩
            obtain ⟨j, rfl⟩ : ∃ m : Nat, j = m := ⟨j.toNat, by simp [within] at a2; omega⟩
            obtain ⟨k, rfl⟩ : ∃ m : Nat, k = m := ⟨k.toNat, by simp [within] at a3; omega⟩
            have hij : i < j := by omega
            have hjk : j < k := by omega
            have hk : k < l.length := by simp [within] at a3; omega
            have q1 : ¬ (j ≤ i) := by omega
            have q2 : ¬ (k ≤ j) := by omega
            have hres : lineE l sN sD pN pD eN eD i j k = if brk l (commV sD pD eD) sN sD pN pD (overV (commV sD pD eD) eN eD) 0 = true then 26 else prf l (commV sD pD eD) sN sD pN pD (overV (commV sD pD eD) eN eD) i j k := by
              simp [lineE, f3, hd, h1, h2, h3, hE, h5, q1, q2]
            rw [hres, hV]
            generalize hU : commU (commU (commU 1 sD) pD) eD = U at *
            have o1 : IntKind.wrap .i64 (sN * IntKind.wrap .i64 (qdiv U sD)) = overV U sN sD := rfl
            have o2 : IntKind.wrap .i64 (pN * IntKind.wrap .i64 (qdiv U pD)) = overV U pN pD := rfl
            have o3 : IntKind.wrap .i64 (eN * IntKind.wrap .i64 (qdiv U eD)) = overV U eN eD := rfl
            simp [ef57, r, hb, u1, u2, wpI_step, E_fuel, St.tidy, t0, Int.not_lt.1 t0, c111 r1, g1, e1, t1, Int.not_lt.1 t1, c111 r2, g2, e2', t2, p0, Int.not_lt.1 p0, Int.not_lt.1 t2, c111 r3, g3, e3', t3, z0, Int.not_lt.1 z0, Int.not_lt.1 t3, c22, w1, a1, a2, a3, hij, hjk, q1, q2, Int.not_le.2 (Int.ofNat_lt.2 hij), Int.not_le.2 (Int.ofNat_lt.2 hjk), d1, d2, d3, o1, o2, o3, KOp_eq]
            generalize hW : overV U eN eD = W at *
            have o1' : ∀ x y, IntKind.wrap .i64 (IntKind.wrap .i64 (IntKind.wrap .i64 (y * U) - overV U sN sD) - IntKind.wrap .i64 (overV U pN pD * x)) = wrongV U sN sD pN pD x y := fun _ _ => rfl
            refine wpC_loop (fun m st => ∃ q : Nat, m = l.length - q ∧ q ≤ l.length ∧ brk l U sN sD pN pD W q = brk l U sN sD pN pD W 0 ∧
              ((q = 0 ∧ st = ⟨[(0, .slice (some ⟨bk, of, none⟩) l.length 2), (3, .pointer (some ⟨h.length, 0, none⟩)), (5, i64 U), (9, i64 (overV U sN sD)), (10, i64 (overV U pN pD)), (11, i64 W), (12, .slice none 0 0), (13, i64 q)],
                h.freeze ++ [some ⟨[i64 sN, i64 sD, i64 pN, i64 pD, i64 eN, i64 eD, i64 i, i64 j, i64 k], true⟩]⟩) ∨
               (0 < q ∧ st = ⟨[(0, .slice (some ⟨bk, of, none⟩) l.length 2), (3, .pointer (some ⟨h.length, 0, none⟩)), (5, i64 U), (9, i64 (overV U sN sD)), (10, i64 (overV U pN pD)), (11, i64 W), (12, .slice (some ⟨h.length + 1, 0, none⟩) q 1), (13, i64 q)],
                h.freeze ++ [some ⟨[i64 sN, i64 sD, i64 pN, i64 pD, i64 eN, i64 eD, i64 i, i64 j, i64 k], true⟩, some ⟨cI (errs l U sN sD pN pD q), true⟩]⟩))) l.length ?_ ?_ ?_
            · show l.length < 2 ^ 64; omega
            · simp [St.tidy, hb]
              exact ⟨0, by simp, by omega, rfl, rfl, rfl⟩
            · rintro m0 hm0 _ ⟨q, rfl, hq, hbk, hst⟩
              by_cases hlt : q < l.length
              · have w2 := wrapN1 (n := q) (by omega)
                have k1 : q * 2 < l.length * 2 := by omega
                have k2 : q * 2 + 1 < l.length * 2 := by omega
                have hx := cD_x hlt; have hy := cD_y hlt
                have ab := absV_max (R64_wrong U sN sD pN pD (dx l q) (dy l q))
                have hmx : 1 ≤ maxLen := by decide
                have hmx2 : q + 1 ≤ maxLen := Nat.le_trans (by omega : q + 1 ≤ 61) (by decide)
                rw [brk_lt hlt] at hbk
                rcases hst with ⟨q0, rfl⟩ | ⟨q0, rfl⟩
                · subst q0
                  have hx0 : h.cell bk of = some (i64 (dx l 0)) := by
                    have := r.2.2.1 0 (by omega)
                    rw [Nat.add_zero] at this
                    rw [this]; simpa using hx
                  have hy0 : (cD l)[1]? = some (i64 (dy l 0)) := by simpa using hy
                  have k3 : 1 < l.length * 2 := by omega
                  have hs1 : [i64 (wrongV U sN sD pN pD (dx l 0) (dy l 0))] = cI (errs l U sN sD pN pD 1) := rfl
                  have hl0 : ¬ l = [] := by intro e; rw [e] at hlt; simp at hlt
                  simp [hl0, hx0, hy0, k3, St.tidy, hlt, Nat.not_le.2 hlt, r, hb, hx, hy, k1, k2, o1', E.append, E.added, hmx, hmx2, c26, ab]
                  refine ⟨fun hc hb0 => ?_, fun hc => ⟨l.length - 1, by omega, 1, rfl, by omega, ?_, by omega, ⟨rfl, rfl⟩, hs1⟩⟩
                  · rw [if_pos hc, hb0] at hbk; cases hbk
                  · rw [if_neg (by omega)] at hbk; exact hbk
                · have hs1 : cI (errs l U sN sD pN pD q) ++ [i64 (wrongV U sN sD pN pD (dx l q) (dy l q))] = cI (errs l U sN sD pN pD (q + 1)) := by rw [errs_succ]; simp [cI]
                  have h8 : (q + 1) * 8 ≤ 140737488355328 := by omega
                  have g0 := errs_get (l := l) (U := U) (sN := sN) (sD := sD) (pN := pN) (pD := pD) (show q < q + 1 by omega)
                  have hc : (q : Int) < q + 1 := by omega
                  simp [hs1, h8, hc, cIerrs_get, errs_len, St.tidy, hlt, Nat.not_le.2 hlt, w2, r, hb, hx, hy, k1, k2, o1', E.append, E.added, hmx, hmx2, c26, ab]
                  refine ⟨fun hc hb0 => ?_, fun hc => ⟨l.length - (q + 1), by omega, q + 1, rfl, by omega, ?_, by omega, ⟨rfl, by omega⟩, rfl⟩⟩
                  · rw [if_pos hc, hb0] at hbk; cases hbk
                  · rw [if_neg (by omega)] at hbk; exact hbk
              · have : q = l.length := by omega
                subst this
                rw [brk_ge (Nat.lt_irrefl _)] at hbk
                have hi : i < l.length := by omega
                have hj : j < l.length := by omega
                have g4 := errs_get (l := l) (U := U) (sN := sN) (sD := sD) (pN := pN) (pD := pD) hi
                have g5 := errs_get (l := l) (U := U) (sN := sN) (sD := sD) (pN := pN) (pD := pD) hj
                have g6 := errs_get (l := l) (U := U) (sN := sN) (sD := sD) (pN := pN) (pD := pD) hk
                rcases hst with ⟨q0, rfl⟩ | ⟨q0, rfl⟩
                · omega
                · simp [hb, hi, hj, hk, g4, g5, g6, c26]
                  rw [absV_max (R64_wrong U sN sD pN pD (dx l i) (dy l i))]
                  have R1 := R64_wrong U sN sD pN pD (dx l i) (dy l i)
                  have R2 := R64_wrong U sN sD pN pD (dx l j) (dy l j)
                  have R3 := R64_wrong U sN sD pN pD (dx l k) (dy l k)
                  have n1 := neg_flip R1 R2
                  have n2 := neg_flip R2 R3
                  unfold prf
                  rw [← hbk]
                  simp only [Bool.false_eq_true, if_false]
                  generalize wrongV U sN sD pN pD (dx l i) (dy l i) = A at *
                  generalize wrongV U sN sD pN pD (dx l j) (dy l j) = B at *
                  generalize wrongV U sN sD pN pD (dx l k) (dy l k) = G at *
                  refine ⟨fun z1 => by rw [if_neg (fun h => z1 h.1)], fun z1 => ⟨fun z2 => by rw [if_neg (fun h => z2 (n1.2 h.2.1))], fun z2 => ⟨fun z3 => ?_, fun z3 => ?_⟩⟩⟩
                  · rw [if_neg]
                    intro h
                    exact z3 (n2.2 (by rw [h.2.2, z2]))
                  · rw [if_pos ⟨z1, n1.1 z2, (n2.1 z3).trans z2.symm⟩]
        · have h5' : idx3 l.length i j k = false := by simpa using h5
          by_cases a1 : within i 0 (l.length - 1) = true
          · by_cases a2 : within j 0 (l.length - 1) = true
            · have a3 : within k 0 (l.length - 1) = false := by simpa [idx3, a1, a2] using h5'
              simp [ef57, r, hb, u1, u2, wpI_step, E_fuel, St.tidy, t0, Int.not_lt.1 t0, c111 r1, g1, e1, t1, Int.not_lt.1 t1, c111 r2, g2, e2', t2, p0, Int.not_lt.1 p0, Int.not_lt.1 t2, c111 r3, g3, e3', t3, z0, Int.not_lt.1 z0, Int.not_lt.1 t3, c22, w1, a1, a2, a3, lineE, f3, hd, h1, h2, h3, hE, h5']
            · simp only [Bool.not_eq_true] at a2
              simp [ef57, r, hb, u1, u2, wpI_step, E_fuel, St.tidy, t0, Int.not_lt.1 t0, c111 r1, g1, e1, t1, Int.not_lt.1 t1, c111 r2, g2, e2', t2, p0, Int.not_lt.1 p0, Int.not_lt.1 t2, c111 r3, g3, e3', t3, z0, Int.not_lt.1 z0, Int.not_lt.1 t3, c22, w1, a1, a2, lineE, f3, hd, h1, h2, h3, hE, h5']
          · simp only [Bool.not_eq_true] at a1
            simp [ef57, r, hb, u1, u2, wpI_step, E_fuel, St.tidy, t0, Int.not_lt.1 t0, c111 r1, g1, e1, t1, Int.not_lt.1 t1, c111 r2, g2, e2', t2, p0, Int.not_lt.1 p0, Int.not_lt.1 t2, c111 r3, g3, e3', t3, z0, Int.not_lt.1 z0, Int.not_lt.1 t3, c22, w1, a1, lineE, f3, hd, h1, h2, h3, hE, h5']
end Go.Abs.N
