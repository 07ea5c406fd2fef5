/- Systems of differences: the reference's solver. -/
import Derived.Test.YtodofkolnmoliaaDoorAbsXSM
import Derived.Test.YtodofkolnmoliaaDoorAbsTyped
set_option linter.unusedSimpArgs false
set_option linter.unusedVariables false
/- Systems of differences: the reference's solver. -/
namespace Go.Abs
namespace X
set_option maxRecDepth 100000
set_option maxHeartbeats 0
/-- Some rounds more: the numbers of the first round that lowers nothing. -/
def tryR (l : List Bd) (n : Nat) : Nat → Nat → Option (List Int)
  | 0, _ => none
  | m + 1, k => if (iterR l n (k + 1)).low = none then some (iterR l n (k + 1)).x else tryR l n m (k + 1)
theorem iter_ok {n : Nat} {l : List Bd} (G : Good n l) : ∀ k, (iterR l n k).x.length = n ∧ (iterR l n k).by_.length = n ∧ BxR n (k * l.length) (iterR l n k).x
  | 0 => ⟨by simp [iterR, zerosI], by simp [iterR, zerosN], fun v _ => by show _ ≤ gx (zerosI n) v ∧ gx (zerosI n) v ≤ 0; rw [gx_zeros]; omega⟩
  | k + 1 => by
    obtain ⟨a1, a2, a3⟩ := iter_ok G k
    have := relF_ok G a1 a2 a3 l.length (Nat.le_refl _)
    rw [show (k + 1) * l.length = k * l.length + l.length from Nat.succ_mul k l.length]
    exact this
theorem z0 (n : Nat) : zeros [Value.int .i64 0] n = cI (zerosI n) := by
  unfold zeros cI zerosI
  induction n with
  | zero => rfl
  | succ n ih => simp_all [List.replicate_succ]
end X
end Go.Abs
/- Systems of differences: the program's solver. -/
namespace Go.Abs
namespace X
set_option maxRecDepth 100000
set_option maxHeartbeats 0
theorem tryR_none {l : List Bd} {n : Nat} : ∀ (m k : Nat), tryR l n m k = none → ∀ j, k < j → j ≤ k + m → (iterR l n j).low ≠ none
  | 0, k, _, j, h1, h2 => by omega
  | m + 1, k, h, j, h1, h2 => by
    simp only [tryR] at h
    split at h
    · cases h
    · rename_i q
      by_cases e : j = k + 1
      · rw [e]; exact q
      · exact tryR_none m (k + 1) h j (by omega) (by omega)
@[simp] theorem cN_plain (l : List Nat) : (cN l).all plainV = true := by simp [cN, plainV]
theorem zN (n : Nat) : cN (zerosN n) = cI (zerosI n) := by simp [cN, cI, zerosN, zerosI]
/-- The numbers of the bounds on the way round, up to some number. -/
def cycI (l : List Bd) (b : List Nat) (w : Nat) : Nat → List Int
  | 0 => []
  | q + 1 => cycI l b w q ++ [((gb b (back l b w q) : Nat) : Int)]
theorem cycI_len (l : List Bd) (b : List Nat) (w : Nat) : ∀ q, (cycI l b w q).length = q
  | 0 => rfl
  | q + 1 => by simp [cycI, cycI_len l b w q]
theorem k97 {d lim : Nat} {h : Heap} {v : Value} {n c : Nat} {l : List Bd} {x : List Int} {b : List Nat}
    (s : SlB3 h v (l.map iB)) (G : Good n l) (lx : x.length = n) (lb : b.length = n) (B : BxR n c x) (hc : c ≤ 100000) (hl : l.length ≤ 1000) (hn : n ≤ 1000) :
    E.call (d + 1) lim 63 [v, .slice (some ⟨h.length, 0, none⟩) n 1, .slice (some ⟨h.length + 1, 0, none⟩) n 1] (h.freeze ++ [some ⟨cI x, true⟩, some ⟨cN b, true⟩]) =
      some (.int .i64 (lowV (relax l x b).low), h.freeze ++ [some ⟨cI (relax l x b).x, true⟩, some ⟨cN (relax l x b).by_, true⟩]) := by
  have g1 : Heap.get (h.freeze ++ [some ⟨cI x, true⟩, some ⟨cN b, true⟩]) h.length = some ⟨cI x, true⟩ := by rw [hget_base0 (by simp)]; rfl
  have g2 : Heap.get (h.freeze ++ [some ⟨cI x, true⟩, some ⟨cN b, true⟩]) (h.length + 1) = some ⟨cN b, true⟩ := by rw [hget_base (by simp)]; rfl
  have pp : ∀ X Y, Heap.put (Heap.put (h.freeze ++ [some ⟨cI x, true⟩, some ⟨cN b, true⟩]) h.length X) (h.length + 1) Y = h.freeze ++ [X, Y] := fun X Y => by
    rw [hput_base0 (by simp), hput_base (by simp)]; rfl
  rw [c63 g1 g2 (by omega) (fun X Y => by rw [pp]; exact (Sl_freeze.2 s).app [X, Y]) G lx lb B hc hl hn, pp]
theorem c16a {d lim : Nat} {h : Heap} {v : Value} {n : Nat} {l : List Bd} {X : List Int} (s : SlB3 h v (l.map iB)) (G : Good n l) (h1 : 1 ≤ n) (h2 : n ≤ 60) (hl : l.length ≤ 210) (he : chkS n (l.map iB) = 0) (ht : tryR l n n 0 = some X) :
    E.call (d + 3) lim 16 [i6 (n : Int), v] h = some (.tuple #[.slice (some ⟨h.length, 0, none⟩) n 1, .slice none 0 0, i6 0], h ++ [some ⟨cI X, true⟩]) := by
  have ml : (l.map iB).length = l.length := by simp
  have r := s.rules2
  rw [ml] at r
  have n0 : n ≠ 0 := by omega
  have zz := z0 n
  have m1 : 8 * (n : Int) ≤ 140737488355328 := by omega
  have m2 : n ≤ maxLen := by unfold maxLen; omega
  have lz : (cI (zerosI n)).length = n := by simp [cI, zerosI]
  have lzN : (cN (zerosN n)).length = n := by simp [cN, zerosN]
  have k36 := fun lim => c62 (d := d) (lim := lim) (n := (n : Int)) (Sl_freeze.2 s)
  have np : 0 < n := by omega
  refine call_pure fn16 rfl (by simp [ef16]) ?_
  rcases Nat.eq_zero_or_pos l.length with hz | hz
  · have el : l = [] := List.eq_nil_of_length_eq_zero hz
    subst el
    have et : tryR [] n n 0 = some (zerosI n) := by
      obtain ⟨m, hm⟩ : ∃ m, n = m + 1 := ⟨n - 1, by omega⟩
      have : tryR [] n (m + 1) 0 = some (zerosI n) := by simp [tryR, iterR, relax, relF]
      rw [← hm] at this; exact this
    obtain rfl : zerosI n = X := Option.some.inj (et.symm.trans ht)
    simp only [List.map_nil] at he k36
    have k := fun lim => k97 (d := d + 1) (lim := lim) (c := 0) s G (x := zerosI n) (b := zerosN n) (by simp [zerosI]) (by simp [zerosN]) (fun v _ => by rw [gx_zeros]; omega) (by omega) (by simp) (by omega)
    have er : relax [] (zerosI n) (zerosN n) = ⟨zerosI n, zerosN n, none⟩ := rfl
    rw [er] at k
    simp only [lowV, zN] at k
    rcases s.low with rfl | ⟨bv, o', m', t', rfl, hbv⟩
    · simp [ef16, k36, he, zz, m1, m2, lz, n0, wpC_unroll, wpI_step, E_fuel', St.tidy, k, np]
    · obtain rfl : m' = 0 := by
        have := s.len
        simpa using this
      simp [ef16, k36, he, zz, m1, m2, lz, n0, wpC_unroll, wpI_step, E_fuel', St.tidy, k, np, hbv]
  obtain ⟨bv, o', rfl⟩ : ∃ bv o', v = .slice (some ⟨bv, o', none⟩) l.length 3 := ⟨_, _, by have := s.addr (by rw [ml]; omega); rw [ml] at this; exact this⟩
  have hbv := s.lt (by rw [ml]; omega)
  simp only [slB_some, slO_some] at r hbv
  simp [ef16, k36, he, zz, m1, m2, lz, n0]
  refine wpC_loop (fun q st => ∃ (k : Nat) (Xq : List Int) (B : List Nat) (lw : Option Nat) (tv : Nat), q = n - k ∧ k ≤ n ∧ iterR l n k = ⟨Xq, B, lw⟩ ∧ tryR l n (n - k) k = some X ∧ (1 ≤ k → lw = some tv) ∧
    st = ⟨[(0, i6 (n : Int)), (1, .slice (some ⟨bv, o', none⟩) l.length 3), (8, .slice (some ⟨h.length, 0, none⟩) n 1), (9, .slice (some ⟨h.length + 1, 0, none⟩) n 1), (10, i6 (tv : Int)), (23, i6 (n : Int)), (24, i6 (k : Int))],
      h.freeze ++ [some ⟨cI Xq, true⟩, some ⟨cN B, true⟩]⟩) n (by show n < 2 ^ 64; omega) ?_ ?_
  · simp [St.tidy, hbv]
    exact ⟨0, by omega, by omega, zerosI n, zerosN n, none, rfl, ht, 0, fun z => absurd z (by omega), ⟨rfl, rfl⟩, rfl, (zN n).symm⟩
  · rintro q hq _ ⟨k, X', B, lw, tv, rfl, hk, hit, htr, hlw, rfl⟩
    have io := iter_ok G k
    rw [hit] at io
    obtain ⟨o1, o2, o3⟩ := io
    simp only at o1 o2 o3
    have wk := w1n (i := k) (by omega)
    by_cases hlt : k < n
    · have hle : (k : Int) < n := by omega
      have kl : k * l.length ≤ 60 * 210 := Nat.mul_le_mul (by omega) hl
      rw [show n - k = (n - k - 1) + 1 by omega] at htr
      have nit : iterR l n (k + 1) = relax l X' B := by
        show relax l (iterR l n k).x (iterR l n k).by_ = _
        rw [hit]
      have k97' := fun lim => k97 (d := d + 1) (lim := lim) s G o1 o2 o3 (by omega) (by omega) (by omega)
      rcases hR : relax l X' B with ⟨X2, B2, lw2⟩
      rw [hR] at nit k97'
      simp only [tryR, nit] at htr
      simp only at k97'
      rcases lw2 with _ | w2
      · simp only [if_true] at htr
        simp only [lowV] at k97'
        obtain rfl : X2 = X := Option.some.inj htr
        simp [hlt, hle, k97', hbv]
      · simp only [reduceCtorEq, if_false] at htr
        simp only [lowV] at k97'
        have w20 : ¬ ((w2 : Int) < 0) := by omega
        simp [hlt, hle, k97', w20, Int.not_lt.1 w20, wk, St.tidy, hbv]
        exact ⟨n - (k + 1), by omega, k + 1, by omega, by omega, _, _, _, nit, by rw [show n - (k + 1) = n - k - 1 by omega]; exact htr, w2, fun _ => rfl, ⟨rfl, by omega⟩, rfl, rfl⟩
    · obtain rfl : n = k := by omega
      rw [Nat.sub_self] at htr
      cases htr
theorem c16b {d lim : Nat} {h : Heap} {v : Value} {n : Nat} {l : List Bd} {b : List Nat} {x0 : List Int} {t0 p : Nat} (s : SlB3 h v (l.map iB)) (G : Good n l) (h1 : 1 ≤ n) (h2 : n ≤ 60) (hl : l.length ≤ 210) (he : chkS n (l.map iB) = 0) (ht : tryR l n n 0 = none)
    (hn : iterR l n n = ⟨x0, b, some t0⟩) (hb : ∀ j, j < n → back l b t0 j < n ∧ ∃ h : gb b (back l b t0 j) < l.length, l[gb b (back l b t0 j)].2.1 = back l b t0 j) (C : Cyc n l b (back l b t0 n) p) :
    E.call (d + 3) lim 16 [i6 (n : Int), v] h = some (.tuple #[.slice none 0 0, .slice (some ⟨h.length, 0, none⟩) p 1, i6 21], h ++ [some ⟨cI (cycI l b (back l b t0 n) p).reverse, true⟩]) := by
  have ml : (l.map iB).length = l.length := by simp
  have r := s.rules2
  rw [ml] at r
  have n0 : n ≠ 0 := by omega
  have zz := z0 n
  have m1 : 8 * (n : Int) ≤ 140737488355328 := by omega
  have m2 : n ≤ maxLen := by unfold maxLen; omega
  have lz : (cI (zerosI n)).length = n := by simp [cI, zerosI]
  have lzN : (cN (zerosN n)).length = n := by simp [cN, zerosN]
  have k36 := fun lim => c62 (d := d) (lim := lim) (n := (n : Int)) (Sl_freeze.2 s)
  have np : 0 < n := by omega
  refine call_pure fn16 rfl (by simp [ef16]) ?_
  rcases Nat.eq_zero_or_pos l.length with hz | hz
  · have el : l = [] := List.eq_nil_of_length_eq_zero hz
    subst el
    exact absurd C.neg (by have := (C.ok 0 (by omega)).2; obtain ⟨z, _⟩ := this; simp at z)
  obtain ⟨bv, o', rfl⟩ : ∃ bv o', v = .slice (some ⟨bv, o', none⟩) l.length 3 := ⟨_, _, by have := s.addr (by rw [ml]; omega); rw [ml] at this; exact this⟩
  have hbv := s.lt (by rw [ml]; omega)
  simp only [slB_some, slO_some] at r hbv
  simp [ef16, k36, he, zz, m1, m2, lz, n0]
  refine wpC_loop (fun q st => ∃ (k : Nat) (Xq : List Int) (B : List Nat) (lw : Option Nat) (tv : Nat), q = n - k ∧ k ≤ n ∧ iterR l n k = ⟨Xq, B, lw⟩ ∧ tryR l n (n - k) k = none ∧ (1 ≤ k → lw = some tv) ∧
    st = ⟨[(0, i6 (n : Int)), (1, .slice (some ⟨bv, o', none⟩) l.length 3), (8, .slice (some ⟨h.length, 0, none⟩) n 1), (9, .slice (some ⟨h.length + 1, 0, none⟩) n 1), (10, i6 (tv : Int)), (23, i6 (n : Int)), (24, i6 (k : Int))],
      h.freeze ++ [some ⟨cI Xq, true⟩, some ⟨cN B, true⟩]⟩) n (by show n < 2 ^ 64; omega) ?_ ?_
  · simp [St.tidy, hbv]
    exact ⟨0, by omega, by omega, zerosI n, zerosN n, none, rfl, ht, 0, fun z => absurd z (by omega), ⟨rfl, rfl⟩, rfl, (zN n).symm⟩
  · rintro q hq _ ⟨k, X', B, lw, tv, rfl, hk, hit, htr, hlw, rfl⟩
    have io := iter_ok G k
    rw [hit] at io
    obtain ⟨o1, o2, o3⟩ := io
    simp only at o1 o2 o3
    have wk := w1n (i := k) (by omega)
    by_cases hlt : k < n
    · have hle : (k : Int) < n := by omega
      have kl : k * l.length ≤ 60 * 210 := Nat.mul_le_mul (by omega) hl
      rw [show n - k = (n - k - 1) + 1 by omega] at htr
      have nit : iterR l n (k + 1) = relax l X' B := by
        show relax l (iterR l n k).x (iterR l n k).by_ = _
        rw [hit]
      have k97' := fun lim => k97 (d := d + 1) (lim := lim) s G o1 o2 o3 (by omega) (by omega) (by omega)
      rcases hR : relax l X' B with ⟨X2, B2, lw2⟩
      rw [hR] at nit k97'
      simp only [tryR, nit] at htr
      simp only at k97'
      rcases lw2 with _ | w2
      · simp only [if_true] at htr
        simp only [lowV] at k97'
        cases htr
      · simp only [reduceCtorEq, if_false] at htr
        simp only [lowV] at k97'
        have w20 : ¬ ((w2 : Int) < 0) := by omega
        simp [hlt, hle, k97', w20, Int.not_lt.1 w20, wk, St.tidy, hbv]
        exact ⟨n - (k + 1), by omega, k + 1, by omega, by omega, _, _, _, nit, by rw [show n - (k + 1) = n - k - 1 by omega]; exact htr, w2, fun _ => rfl, ⟨rfl, by omega⟩, rfl, rfl⟩
    · obtain rfl : n = k := by omega
      rw [Nat.sub_self] at htr
      rw [hn] at hit
      obtain ⟨rfl, rfl, rfl⟩ : x0 = X' ∧ b = B ∧ some t0 = lw := by injection hit with e1 e2 e3; exact ⟨e1, e2, e3⟩
      obtain rfl : t0 = tv := Option.some.inj (hlw h1)
      have lB : (cN b).length = n := by simp [cN, o2]
      have bt : ∀ u, u < n → (cN b)[u]? = some (.int .i64 ((gb b u : Nat) : Int)) := fun u hu => cN_gb (by omega)
      have btv : ∀ u, u < n → ∀ hh, (cN b)[u]'hh = .int .i64 ((gb b u : Nat) : Int) := fun u hu hh => by have := List.getElem?_eq_getElem hh; rw [bt u hu] at this; exact (Option.some.inj this).symm
      simp
      refine wpC_loop (fun q st => ∃ j : Nat, q = n - j ∧ j ≤ n ∧ st = ⟨[(1, .slice (some ⟨bv, o', none⟩) l.length 3), (9, .slice (some ⟨h.length, 0, none⟩) n 1), (10, i6 ((back l b t0 j : Nat) : Int)), (34, i6 (n : Int)), (35, i6 (j : Int))], h.freeze ++ [some ⟨cN b, true⟩]⟩) n (by show n < 2 ^ 64; omega) ?_ ?_
      · simp [St.tidy, hbv]
        exact ⟨0, by omega, by omega, rfl, rfl⟩
      · rintro q hq _ ⟨j, rfl, hj, rfl⟩
        by_cases hlt : j < n
        · have w1' := w1n (i := j) (by omega)
          obtain ⟨a1, a2, _⟩ := hb j hlt
          have hm : gb b (back l b t0 j) < (l.map iB).length := by rw [ml]; exact a2
          have c0 := cB_0 hm
          rw [atB_iB a2] at c0
          have e1 : l[gb b (back l b t0 j)].1 = back l b t0 (j + 1) := by simp [back, prev, a2]
          simp only [iB, e1] at c0
          have hle : (j : Int) < n := by omega
          have v1 := btv _ a1
          have k0 : gb b (back l b t0 j) * 3 < l.length * 3 := by omega
          have i1 : ((back l b t0 j : Nat) : Int) < n := by omega
          have i2 : ((gb b (back l b t0 j) : Nat) : Int) < l.length := by omega
          generalize hu2 : back l b t0 (j + 1) = u2 at *
          generalize back l b t0 j = u at *
          generalize gb b u = g at *
          simp [hlt, hle, r, v1, c0, k0, a1, a2, i1, i2, lB, w1', St.tidy, hbv]
          exact ⟨n - (j + 1), by omega, j + 1, by omega, by omega, by rw [hu2], by omega⟩
        · obtain rfl : j = n := by omega
          clear hb
          generalize back l b t0 j = w at *
          simp
          refine wpC_loop (fun q st => ∃ k : Nat, q = p - k ∧ k ≤ p ∧ st = ⟨[(1, .slice (some ⟨bv, o', none⟩) l.length 3), (9, .slice (some ⟨h.length, 0, none⟩) j 1), (10, i6 (w : Int)), (11, if k = 0 then .slice none 0 0 else .slice (some ⟨h.length + 1, 0, none⟩) k 1), (12, i6 ((back l b w k : Nat) : Int))],
            h.freeze ++ (some ⟨cN b, true⟩ :: if k = 0 then [] else [some ⟨cI (cycI l b w k), true⟩])⟩) p (by have := C.pn; show p < 2 ^ 64; omega) ?_ ?_
          · simp [St.tidy, hbv]
            exact ⟨0, by omega, by omega, ⟨rfl, rfl⟩, rfl⟩
          · rintro q hq _ ⟨k, rfl, hk, rfl⟩
            have pn := C.pn
            by_cases hkp : k < p
            · obtain ⟨a1, a2, _⟩ := C.ok k hk
              have hm : gb b (back l b w k) < (l.map iB).length := by rw [ml]; exact a2
              have c0 := cB_0 hm
              rw [atB_iB a2] at c0
              have e1 : l[gb b (back l b w k)].1 = back l b w (k + 1) := by simp [back, prev, a2]
              simp only [iB, e1] at c0
              have v1 := btv _ a1
              have k0 : gb b (back l b w k) * 3 < l.length * 3 := by omega
              have i1 : ((back l b w k : Nat) : Int) < j := by omega
              have i2 : ((gb b (back l b w k) : Nat) : Int) < l.length := by omega
              have cl : (cI (cycI l b w k)).length = k := by simp [cI, cycI_len]
              have hsn : cI (cycI l b w k) ++ [.int .i64 ((gb b (back l b w k) : Nat) : Int)] = cI (cycI l b w (k + 1)) := by simp [cycI, cI]
              have fi := C.first k
              rcases Nat.eq_zero_or_pos k with z | z
              · subst z
                have hs0 : [Value.int .i64 ((gb b (back l b w 0) : Nat) : Int)] = cI (cycI l b w 1) := by simp [cycI, cI]
                generalize hu2 : back l b w (0 + 1) = u2 at *
                generalize back l b w 0 = u at *
                generalize gb b u = g at *
                simp [r, v1, c0, k0, a1, a2, i1, i2, lB, E.append, E.added, Value.oneCell', maxLen, St.tidy, hbv]
                exact ⟨p - 1, by omega, 1, by omega, by omega, ⟨by simp, by rw [← hu2]⟩, by rw [if_neg (by omega)]; exact congrArg (fun c => [some (Blk.mk c true)]) hs0⟩
              · have zk : k ≠ 0 := by omega
                have ne : ¬ ((back l b w k : Nat) : Int) = w := fun e => fi (by omega) hkp (by omega)
                have ne' : ¬ back l b w k = w := fun e => fi (by omega) hkp e
                generalize hu2 : back l b w (k + 1) = u2 at *
                generalize back l b w k = u at *
                generalize gb b u = g at *
                simp [r, v1, c0, k0, a1, a2, i1, i2, lB, zk, ne, ne', cl, hsn, E.append, E.added, Value.oneCell', maxLen, St.tidy, hbv, Nat.add_assoc]
                exact ⟨⟨by omega, by omega⟩, p - (k + 1), by omega, k + 1, by omega, by omega, ⟨by simp, by rw [hu2]⟩, by simp⟩
            · obtain rfl : k = p := by omega
              have p1 := C.p1
              have zk : k ≠ 0 := by omega
              have cl := C.close
              have g2 : Heap.get (h.freeze ++ [some ⟨cN b, true⟩, some ⟨cI (cycI l b w k), true⟩]) (h.length + 1) = some ⟨cI (cycI l b w k), true⟩ := by rw [hget_base (by simp)]; rfl
              have ln := cycI_len l b w k
              have k98 := fun lim => c64 (d := d + 1) (lim := lim) g2 (by omega) (by omega)
              rw [hput_base (by simp), ln] at k98
              simp at k98
              simp [zk, cl, k98]
end X
end Go.Abs
/- Systems of differences: lists compared; ways round checked. -/
namespace Go.Abs
namespace X
set_option maxRecDepth 100000
set_option maxHeartbeats 0
abbrev SlI' (h : Heap) (v : Value) (l : List Int) : Prop := Sl 1 h v l.length (cI l)
theorem SlI'_own {h : Heap} {b n : Nat} {l : List Int} {rw : Bool} (e : h.get b = some ⟨cI l, rw⟩) (hn : n = l.length) : SlI' h (.slice (some ⟨b, 0, none⟩) n 1) l := by
  subst hn
  exact ⟨by simp, by simp [cI], fun _ => rfl, .inr ⟨b, 0, l.length, 1, rfl, Heap.get_lt e⟩, fun k hk => by simp only [slB_some, slO_some, Nat.zero_add]; rw [cell_get e]⟩
/-- What a check of a way round wants. -/
structure Way (n : Nat) (l : List Bd) (r : List Int) (f : Nat → Nat) : Prop where
  p1 : 1 ≤ r.length
  pn : r.length ≤ 60
  at_ : ∀ i, i < r.length → r[i]? = some ((f i : Nat) : Int)
  lt : ∀ i, i < r.length → f i < l.length
end X
end Go.Abs
/- Systems of differences: the plain facts of the law. -/
namespace Go.Abs
namespace X
set_option maxRecDepth 100000
set_option maxHeartbeats 0
end X
end Go.Abs
