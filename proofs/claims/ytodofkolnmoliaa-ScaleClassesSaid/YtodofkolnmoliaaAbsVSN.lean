/- Systems of differences: the reference's solver. -/
import Derived.Test.YtodofkolnmoliaaAbsVSM
import Derived.Test.YtodofkolnmoliaaAbsTyped
set_option linter.unusedSimpArgs false
set_option linter.unusedVariables false
/- Systems of differences: the reference's solver. -/
namespace Go.Abs
namespace V
set_option maxRecDepth 100000
set_option maxHeartbeats 0
/-- Some rounds more: the numbers of the first round that lowers nothing. -/
def tryR (l : List Bd) (n : Nat) : Nat → Nat → Option (List Int)
  | 0, _ => none
  | m + 1, k => if (iterR l n (k + 1)).low = none then some (iterR l n (k + 1)).x else tryR l n m (k + 1)
def solV (n : Nat) (b : Nat) : Option (List Int) → Value
  | none => .slice none 0 0
  | some _ => .slice (some ⟨b, 0, none⟩) n 1
def solB : Option (List Int) → List (Option Blk)
  | none => []
  | some x => [some ⟨cI x, true⟩]
theorem iter_ok {n : Nat} {l : List Bd} (G : Good n l) : ∀ k, (iterR l n k).x.length = n ∧ (iterR l n k).by_.length = n ∧ BxR n (k * l.length) (iterR l n k).x
  | 0 => ⟨by simp [iterR, zerosI], by simp [iterR, zerosN], fun v _ => by show _ ≤ gx (zerosI n) v ∧ gx (zerosI n) v ≤ 0; rw [gx_zeros]; omega⟩
  | k + 1 => by
    obtain ⟨a1, a2, a3⟩ := iter_ok G k
    have := relF_ok G a1 a2 a3 l.length (Nat.le_refl _)
    rw [show (k + 1) * l.length = k * l.length + l.length from Nat.succ_mul k l.length]
    exact this
theorem z0 (n : Nat) : zeros [Value.int .i64 0] n = cI (zerosI n) := by
  unfold zeros cI zerosI
  induction n with
  | zero => rfl
  | succ n ih => simp_all [List.replicate_succ]
end V
end Go.Abs
/- Systems of differences: the program's solver. -/
namespace Go.Abs
namespace V
set_option maxRecDepth 100000
set_option maxHeartbeats 0
theorem tryR_none {l : List Bd} {n : Nat} : ∀ (m k : Nat), tryR l n m k = none → ∀ j, k < j → j ≤ k + m → (iterR l n j).low ≠ none
  | 0, k, _, j, h1, h2 => by omega
  | m + 1, k, h, j, h1, h2 => by
    simp only [tryR] at h
    split at h
    · cases h
    · rename_i q
      by_cases e : j = k + 1
      · rw [e]; exact q
      · exact tryR_none m (k + 1) h j (by omega) (by omega)
theorem tryR_more {l : List Bd} {n : Nat} : ∀ (m k : Nat) (X : List Int), tryR l n m k = some X → tryR l n (m + 1) k = some X
  | 0, k, X, h => by cases h
  | m + 1, k, X, h => by
    rw [tryR] at h ⊢
    split at h
    · rename_i q; rw [if_pos q]; exact h
    · rename_i q; rw [if_neg q]; exact tryR_more m (k + 1) X h
theorem tryR_last {l : List Bd} {n : Nat} : ∀ (m k : Nat), tryR l n m k = none → (iterR l n (k + m + 1)).low ≠ none → tryR l n (m + 1) k = none
  | 0, k, _, h => by rw [tryR, if_neg h]; rfl
  | m + 1, k, h, h2 => by
    rw [tryR] at h ⊢
    split at h
    · cases h
    · rename_i q; rw [if_neg q]
      exact tryR_last m (k + 1) h (by rw [show k + 1 + m + 1 = k + (m + 1) + 1 by omega]; exact h2)
@[simp] theorem cN_plain (l : List Nat) : (cN l).all plainV = true := by simp [cN, plainV]
theorem zN (n : Nat) : cN (zerosN n) = cI (zerosI n) := by simp [cN, cI, zerosN, zerosI]
/-- The numbers of the bounds on the way round, up to some number. -/
def cycI (l : List Bd) (b : List Nat) (w : Nat) : Nat → List Int
  | 0 => []
  | q + 1 => cycI l b w q ++ [((gb b (back l b w q) : Nat) : Int)]
theorem cycI_len (l : List Bd) (b : List Nat) (w : Nat) : ∀ q, (cycI l b w q).length = q
  | 0 => rfl
  | q + 1 => by simp [cycI, cycI_len l b w q]
theorem k97 {d lim : Nat} {h : Heap} {v : Value} {n c : Nat} {l : List Bd} {x : List Int} {b : List Nat}
    (s : SlB3 h v (l.map iB)) (G : Good n l) (lx : x.length = n) (lb : b.length = n) (B : BxR n c x) (hc : c ≤ 100000) (hl : l.length ≤ 1000) (hn : n ≤ 1000) :
    E.call (d + 1) lim 74 [v, .slice (some ⟨h.length, 0, none⟩) n 1, .slice (some ⟨h.length + 1, 0, none⟩) n 1] (h.freeze ++ [some ⟨cI x, true⟩, some ⟨cN b, true⟩]) =
      some (.int .i64 (lowV (relax l x b).low), h.freeze ++ [some ⟨cI (relax l x b).x, true⟩, some ⟨cN (relax l x b).by_, true⟩]) := by
  have g1 : Heap.get (h.freeze ++ [some ⟨cI x, true⟩, some ⟨cN b, true⟩]) h.length = some ⟨cI x, true⟩ := by rw [hget_base0 (by simp)]; rfl
  have g2 : Heap.get (h.freeze ++ [some ⟨cI x, true⟩, some ⟨cN b, true⟩]) (h.length + 1) = some ⟨cN b, true⟩ := by rw [hget_base (by simp)]; rfl
  have pp : ∀ X Y, Heap.put (Heap.put (h.freeze ++ [some ⟨cI x, true⟩, some ⟨cN b, true⟩]) h.length X) (h.length + 1) Y = h.freeze ++ [X, Y] := fun X Y => by
    rw [hput_base0 (by simp), hput_base (by simp)]; rfl
  rw [c74 g1 g2 (by omega) (fun X Y => by rw [pp]; exact (Sl_freeze.2 s).app [X, Y]) G lx lb B hc hl hn, pp]
theorem c59e {d lim : Nat} {h : Heap} {v : Value} {l : List B3i} {n : Int} (s : SlB3 h v l) (he : chkS n l ≠ 0) : E.call (d + 3) lim 59 [.int .i64 n, v] h = some (.tuple #[.slice none 0 0, .slice none 0 0, i6 (chkS n l)], h) := by
  have k36 := fun lim => c60 (d := d) (lim := lim) (n := n) (Sl_freeze.2 s)
  refine call1 fn59 rfl (by simp [ef59]) ?_
  simp [ef59, k36, he]
theorem c59a {d lim : Nat} {h : Heap} {v : Value} {n : Nat} {l : List Bd} {X : List Int} (s : SlB3 h v (l.map iB)) (G : Good n l) (h1 : 1 ≤ n) (h2 : n ≤ 60) (hl : l.length ≤ 210) (he : chkS n (l.map iB) = 0) (ht : tryR l n n 0 = some X) :
    E.call (d + 3) lim 59 [i6 (n : Int), v] h = some (.tuple #[.slice (some ⟨h.length, 0, none⟩) n 1, .slice none 0 0, i6 0], h ++ [some ⟨cI X, true⟩]) := by
  have ml : (l.map iB).length = l.length := by simp
  have r := s.rules2
  rw [ml] at r
  have n0 : n ≠ 0 := by omega
  have zz := z0 n
  have m1 : 8 * (n : Int) ≤ 140737488355328 := by omega
  have m2 : n ≤ maxLen := by unfold maxLen; omega
  have lz : (cI (zerosI n)).length = n := by simp [cI, zerosI]
  have lzN : (cN (zerosN n)).length = n := by simp [cN, zerosN]
  have k36 := fun lim => c60 (d := d) (lim := lim) (n := (n : Int)) (Sl_freeze.2 s)
  have np : 0 < n := by omega
  refine call_pure fn59 rfl (by simp [ef59]) ?_
  rcases Nat.eq_zero_or_pos l.length with hz | hz
  · have el : l = [] := List.eq_nil_of_length_eq_zero hz
    subst el
    have et : tryR [] n n 0 = some (zerosI n) := by
      obtain ⟨m, hm⟩ : ∃ m, n = m + 1 := ⟨n - 1, by omega⟩
      have : tryR [] n (m + 1) 0 = some (zerosI n) := by simp [tryR, iterR, relax, relF]
      rw [← hm] at this; exact this
    obtain rfl : zerosI n = X := Option.some.inj (et.symm.trans ht)
    simp only [List.map_nil] at he k36
    have k := fun lim => k97 (d := d + 1) (lim := lim) (c := 0) s G (x := zerosI n) (b := zerosN n) (by simp [zerosI]) (by simp [zerosN]) (fun v _ => by rw [gx_zeros]; omega) (by omega) (by simp) (by omega)
    have er : relax [] (zerosI n) (zerosN n) = ⟨zerosI n, zerosN n, none⟩ := rfl
    rw [er] at k
    simp only [lowV, zN] at k
    rcases s.low with rfl | ⟨bv, o', m', t', rfl, hbv⟩
    · simp [ef59, k36, he, zz, m1, m2, lz, n0, wpC_unroll, wpI_step, E_fuel', St.tidy, k, np]
    · obtain rfl : m' = 0 := by
        have := s.len
        simpa using this
      simp [ef59, k36, he, zz, m1, m2, lz, n0, wpC_unroll, wpI_step, E_fuel', St.tidy, k, np, hbv]
  obtain ⟨bv, o', rfl⟩ : ∃ bv o', v = .slice (some ⟨bv, o', none⟩) l.length 3 := ⟨_, _, by have := s.addr (by rw [ml]; omega); rw [ml] at this; exact this⟩
  have hbv := s.lt (by rw [ml]; omega)
  simp only [slB_some, slO_some] at r hbv
  simp [ef59, k36, he, zz, m1, m2, lz, n0]
  refine wpC_loop (fun q st => ∃ (k : Nat) (Xq : List Int) (B : List Nat) (lw : Option Nat) (tv : Nat), q = n - k ∧ k ≤ n ∧ iterR l n k = ⟨Xq, B, lw⟩ ∧ tryR l n (n - k) k = some X ∧ (1 ≤ k → lw = some tv) ∧
    st = ⟨[(0, i6 (n : Int)), (1, .slice (some ⟨bv, o', none⟩) l.length 3), (8, .slice (some ⟨h.length, 0, none⟩) n 1), (9, .slice (some ⟨h.length + 1, 0, none⟩) n 1), (10, i6 (tv : Int)), (23, i6 (n : Int)), (24, i6 (k : Int))],
      h.freeze ++ [some ⟨cI Xq, true⟩, some ⟨cN B, true⟩]⟩) n (by show n < 2 ^ 64; omega) ?_ ?_
  · simp [St.tidy, hbv]
    exact ⟨0, by omega, by omega, zerosI n, zerosN n, none, rfl, ht, 0, fun z => absurd z (by omega), ⟨rfl, rfl⟩, rfl, (zN n).symm⟩
  · rintro q hq _ ⟨k, X', B, lw, tv, rfl, hk, hit, htr, hlw, rfl⟩
    have io := iter_ok G k
    rw [hit] at io
    obtain ⟨o1, o2, o3⟩ := io
    simp only at o1 o2 o3
    have wk := w1n (i := k) (by omega)
    by_cases hlt : k < n
    · have hle : (k : Int) < n := by omega
      have kl : k * l.length ≤ 60 * 210 := Nat.mul_le_mul (by omega) hl
      rw [show n - k = (n - k - 1) + 1 by omega] at htr
      have nit : iterR l n (k + 1) = relax l X' B := by
        show relax l (iterR l n k).x (iterR l n k).by_ = _
        rw [hit]
      have k97' := fun lim => k97 (d := d + 1) (lim := lim) s G o1 o2 o3 (by omega) (by omega) (by omega)
      rcases hR : relax l X' B with ⟨X2, B2, lw2⟩
      rw [hR] at nit k97'
      simp only [tryR, nit] at htr
      simp only at k97'
      rcases lw2 with _ | w2
      · simp only [if_true] at htr
        simp only [lowV] at k97'
        obtain rfl : X2 = X := Option.some.inj htr
        simp [hlt, hle, k97', hbv]
      · simp only [reduceCtorEq, if_false] at htr
        simp only [lowV] at k97'
        have w20 : ¬ ((w2 : Int) < 0) := by omega
        simp [hlt, hle, k97', w20, Int.not_lt.1 w20, wk, St.tidy, hbv]
        exact ⟨n - (k + 1), by omega, k + 1, by omega, by omega, _, _, _, nit, by rw [show n - (k + 1) = n - k - 1 by omega]; exact htr, w2, fun _ => rfl, ⟨rfl, by omega⟩, rfl, rfl⟩
    · obtain rfl : n = k := by omega
      rw [Nat.sub_self] at htr
      cases htr
theorem c59b {d lim : Nat} {h : Heap} {v : Value} {n : Nat} {l : List Bd} {b : List Nat} {x0 : List Int} {t0 p : Nat} (s : SlB3 h v (l.map iB)) (G : Good n l) (h1 : 1 ≤ n) (h2 : n ≤ 60) (hl : l.length ≤ 210) (he : chkS n (l.map iB) = 0) (ht : tryR l n n 0 = none)
    (hn : iterR l n n = ⟨x0, b, some t0⟩) (hb : ∀ j, j < n → back l b t0 j < n ∧ ∃ h : gb b (back l b t0 j) < l.length, l[gb b (back l b t0 j)].2.1 = back l b t0 j) (C : Cyc n l b (back l b t0 n) p) :
    E.call (d + 3) lim 59 [i6 (n : Int), v] h = some (.tuple #[.slice none 0 0, .slice (some ⟨h.length, 0, none⟩) p 1, i6 21], h ++ [some ⟨cI (cycI l b (back l b t0 n) p).reverse, true⟩]) := by
  have ml : (l.map iB).length = l.length := by simp
  have r := s.rules2
  rw [ml] at r
  have n0 : n ≠ 0 := by omega
  have zz := z0 n
  have m1 : 8 * (n : Int) ≤ 140737488355328 := by omega
  have m2 : n ≤ maxLen := by unfold maxLen; omega
  have lz : (cI (zerosI n)).length = n := by simp [cI, zerosI]
  have lzN : (cN (zerosN n)).length = n := by simp [cN, zerosN]
  have k36 := fun lim => c60 (d := d) (lim := lim) (n := (n : Int)) (Sl_freeze.2 s)
  have np : 0 < n := by omega
  refine call_pure fn59 rfl (by simp [ef59]) ?_
  rcases Nat.eq_zero_or_pos l.length with hz | hz
  · have el : l = [] := List.eq_nil_of_length_eq_zero hz
    subst el
    exact absurd C.neg (by have := (C.ok 0 (by omega)).2; obtain ⟨z, _⟩ := this; simp at z)
  obtain ⟨bv, o', rfl⟩ : ∃ bv o', v = .slice (some ⟨bv, o', none⟩) l.length 3 := ⟨_, _, by have := s.addr (by rw [ml]; omega); rw [ml] at this; exact this⟩
  have hbv := s.lt (by rw [ml]; omega)
  simp only [slB_some, slO_some] at r hbv
  simp [ef59, k36, he, zz, m1, m2, lz, n0]
  refine wpC_loop (fun q st => ∃ (k : Nat) (Xq : List Int) (B : List Nat) (lw : Option Nat) (tv : Nat), q = n - k ∧ k ≤ n ∧ iterR l n k = ⟨Xq, B, lw⟩ ∧ tryR l n (n - k) k = none ∧ (1 ≤ k → lw = some tv) ∧
    st = ⟨[(0, i6 (n : Int)), (1, .slice (some ⟨bv, o', none⟩) l.length 3), (8, .slice (some ⟨h.length, 0, none⟩) n 1), (9, .slice (some ⟨h.length + 1, 0, none⟩) n 1), (10, i6 (tv : Int)), (23, i6 (n : Int)), (24, i6 (k : Int))],
      h.freeze ++ [some ⟨cI Xq, true⟩, some ⟨cN B, true⟩]⟩) n (by show n < 2 ^ 64; omega) ?_ ?_
  · simp [St.tidy, hbv]
    exact ⟨0, by omega, by omega, zerosI n, zerosN n, none, rfl, ht, 0, fun z => absurd z (by omega), ⟨rfl, rfl⟩, rfl, (zN n).symm⟩
  · rintro q hq _ ⟨k, X', B, lw, tv, rfl, hk, hit, htr, hlw, rfl⟩
    have io := iter_ok G k
    rw [hit] at io
    obtain ⟨o1, o2, o3⟩ := io
    simp only at o1 o2 o3
    have wk := w1n (i := k) (by omega)
    by_cases hlt : k < n
    · have hle : (k : Int) < n := by omega
      have kl : k * l.length ≤ 60 * 210 := Nat.mul_le_mul (by omega) hl
      rw [show n - k = (n - k - 1) + 1 by omega] at htr
      have nit : iterR l n (k + 1) = relax l X' B := by
        show relax l (iterR l n k).x (iterR l n k).by_ = _
        rw [hit]
      have k97' := fun lim => k97 (d := d + 1) (lim := lim) s G o1 o2 o3 (by omega) (by omega) (by omega)
      rcases hR : relax l X' B with ⟨X2, B2, lw2⟩
      rw [hR] at nit k97'
      simp only [tryR, nit] at htr
      simp only at k97'
      rcases lw2 with _ | w2
      · simp only [if_true] at htr
        simp only [lowV] at k97'
        cases htr
      · simp only [reduceCtorEq, if_false] at htr
        simp only [lowV] at k97'
        have w20 : ¬ ((w2 : Int) < 0) := by omega
        simp [hlt, hle, k97', w20, Int.not_lt.1 w20, wk, St.tidy, hbv]
        exact ⟨n - (k + 1), by omega, k + 1, by omega, by omega, _, _, _, nit, by rw [show n - (k + 1) = n - k - 1 by omega]; exact htr, w2, fun _ => rfl, ⟨rfl, by omega⟩, rfl, rfl⟩
    · obtain rfl : n = k := by omega
      rw [Nat.sub_self] at htr
      rw [hn] at hit
      obtain ⟨rfl, rfl, rfl⟩ : x0 = X' ∧ b = B ∧ some t0 = lw := by injection hit with e1 e2 e3; exact ⟨e1, e2, e3⟩
      obtain rfl : t0 = tv := Option.some.inj (hlw h1)
      have lB : (cN b).length = n := by simp [cN, o2]
      have bt : ∀ u, u < n → (cN b)[u]? = some (.int .i64 ((gb b u : Nat) : Int)) := fun u hu => cN_gb (by omega)
      have btv : ∀ u, u < n → ∀ hh, (cN b)[u]'hh = .int .i64 ((gb b u : Nat) : Int) := fun u hu hh => by have := List.getElem?_eq_getElem hh; rw [bt u hu] at this; exact (Option.some.inj this).symm
      simp
      refine wpC_loop (fun q st => ∃ j : Nat, q = n - j ∧ j ≤ n ∧ st = ⟨[(1, .slice (some ⟨bv, o', none⟩) l.length 3), (9, .slice (some ⟨h.length, 0, none⟩) n 1), (10, i6 ((back l b t0 j : Nat) : Int)), (34, i6 (n : Int)), (35, i6 (j : Int))], h.freeze ++ [some ⟨cN b, true⟩]⟩) n (by show n < 2 ^ 64; omega) ?_ ?_
      · simp [St.tidy, hbv]
        exact ⟨0, by omega, by omega, rfl, rfl⟩
      · rintro q hq _ ⟨j, rfl, hj, rfl⟩
        by_cases hlt : j < n
        · have w1' := w1n (i := j) (by omega)
          obtain ⟨a1, a2, _⟩ := hb j hlt
          have hm : gb b (back l b t0 j) < (l.map iB).length := by rw [ml]; exact a2
          have c0 := cB_0 hm
          rw [atB_iB a2] at c0
          have e1 : l[gb b (back l b t0 j)].1 = back l b t0 (j + 1) := by simp [back, prev, a2]
          simp only [iB, e1] at c0
          have hle : (j : Int) < n := by omega
          have v1 := btv _ a1
          have k0 : gb b (back l b t0 j) * 3 < l.length * 3 := by omega
          have i1 : ((back l b t0 j : Nat) : Int) < n := by omega
          have i2 : ((gb b (back l b t0 j) : Nat) : Int) < l.length := by omega
          generalize hu2 : back l b t0 (j + 1) = u2 at *
          generalize back l b t0 j = u at *
          generalize gb b u = g at *
          simp [hlt, hle, r, v1, c0, k0, a1, a2, i1, i2, lB, w1', St.tidy, hbv]
          exact ⟨n - (j + 1), by omega, j + 1, by omega, by omega, by rw [hu2], by omega⟩
        · obtain rfl : j = n := by omega
          clear hb
          generalize back l b t0 j = w at *
          simp
          refine wpC_loop (fun q st => ∃ k : Nat, q = p - k ∧ k ≤ p ∧ st = ⟨[(1, .slice (some ⟨bv, o', none⟩) l.length 3), (9, .slice (some ⟨h.length, 0, none⟩) j 1), (10, i6 (w : Int)), (11, if k = 0 then .slice none 0 0 else .slice (some ⟨h.length + 1, 0, none⟩) k 1), (12, i6 ((back l b w k : Nat) : Int))],
            h.freeze ++ (some ⟨cN b, true⟩ :: if k = 0 then [] else [some ⟨cI (cycI l b w k), true⟩])⟩) p (by have := C.pn; show p < 2 ^ 64; omega) ?_ ?_
          · simp [St.tidy, hbv]
            exact ⟨0, by omega, by omega, ⟨rfl, rfl⟩, rfl⟩
          · rintro q hq _ ⟨k, rfl, hk, rfl⟩
            have pn := C.pn
            by_cases hkp : k < p
            · obtain ⟨a1, a2, _⟩ := C.ok k hk
              have hm : gb b (back l b w k) < (l.map iB).length := by rw [ml]; exact a2
              have c0 := cB_0 hm
              rw [atB_iB a2] at c0
              have e1 : l[gb b (back l b w k)].1 = back l b w (k + 1) := by simp [back, prev, a2]
              simp only [iB, e1] at c0
              have v1 := btv _ a1
              have k0 : gb b (back l b w k) * 3 < l.length * 3 := by omega
              have i1 : ((back l b w k : Nat) : Int) < j := by omega
              have i2 : ((gb b (back l b w k) : Nat) : Int) < l.length := by omega
              have cl : (cI (cycI l b w k)).length = k := by simp [cI, cycI_len]
              have hsn : cI (cycI l b w k) ++ [.int .i64 ((gb b (back l b w k) : Nat) : Int)] = cI (cycI l b w (k + 1)) := by simp [cycI, cI]
              have fi := C.first k
              rcases Nat.eq_zero_or_pos k with z | z
              · subst z
                have hs0 : [Value.int .i64 ((gb b (back l b w 0) : Nat) : Int)] = cI (cycI l b w 1) := by simp [cycI, cI]
                generalize hu2 : back l b w (0 + 1) = u2 at *
                generalize back l b w 0 = u at *
                generalize gb b u = g at *
                simp [r, v1, c0, k0, a1, a2, i1, i2, lB, E.append, E.added, Value.oneCell', maxLen, St.tidy, hbv]
                exact ⟨p - 1, by omega, 1, by omega, by omega, ⟨by simp, by rw [← hu2]⟩, by rw [if_neg (by omega)]; exact congrArg (fun c => [some (Blk.mk c true)]) hs0⟩
              · have zk : k ≠ 0 := by omega
                have ne : ¬ ((back l b w k : Nat) : Int) = w := fun e => fi (by omega) hkp (by omega)
                have ne' : ¬ back l b w k = w := fun e => fi (by omega) hkp e
                generalize hu2 : back l b w (k + 1) = u2 at *
                generalize back l b w k = u at *
                generalize gb b u = g at *
                simp [r, v1, c0, k0, a1, a2, i1, i2, lB, zk, ne, ne', cl, hsn, E.append, E.added, Value.oneCell', maxLen, St.tidy, hbv, Nat.add_assoc]
                exact ⟨⟨by omega, by omega⟩, p - (k + 1), by omega, k + 1, by omega, by omega, ⟨by simp, by rw [hu2]⟩, by simp⟩
            · obtain rfl : k = p := by omega
              have p1 := C.p1
              have zk : k ≠ 0 := by omega
              have cl := C.close
              have g2 : Heap.get (h.freeze ++ [some ⟨cN b, true⟩, some ⟨cI (cycI l b w k), true⟩]) (h.length + 1) = some ⟨cI (cycI l b w k), true⟩ := by rw [hget_base (by simp)]; rfl
              have ln := cycI_len l b w k
              have k98 := fun lim => c75 (d := d + 1) (lim := lim) g2 (by omega) (by omega)
              rw [hput_base (by simp), ln] at k98
              simp at k98
              simp [zk, cl, k98]
end V
end Go.Abs
/- Systems of differences: lists compared; ways round checked. -/
namespace Go.Abs
namespace V
set_option maxRecDepth 100000
set_option maxHeartbeats 0
abbrev SlI' (h : Heap) (v : Value) (l : List Int) : Prop := Sl 1 h v l.length (cI l)
theorem SlI'_own {h : Heap} {b n : Nat} {l : List Int} {rw : Bool} (e : h.get b = some ⟨cI l, rw⟩) (hn : n = l.length) : SlI' h (.slice (some ⟨b, 0, none⟩) n 1) l := by
  subst hn
  exact ⟨by simp, by simp [cI], fun _ => rfl, .inr ⟨b, 0, l.length, 1, rfl, Heap.get_lt e⟩, fun k hk => by simp only [slB_some, slO_some, Nat.zero_add]; rw [cell_get e]⟩
theorem c37 {d lim : Nat} {h : Heap} {v w : Value} {l : List Int} (s : SlI' h v l) (t : SlI' h w l) (hl : l.length ≤ 1000) : E.call (d + 1) lim 37 [v, w] h = some (.bool true, h) := by
  have r := s.rules2
  have r' := t.rules2
  refine call1 fn37 rfl (by simp [ef37]) ?_
  simp [ef37, r, r']
  refine wpC_loop (fun q st => ∃ i : Nat, q = l.length - i ∧ i ≤ l.length ∧ st = ⟨[(0, v), (1, w), (5, i6 (i : Int))], h.freeze⟩) l.length (by show l.length < 2 ^ 64; omega) ?_ ?_
  · simp [St.tidy, r, r']
    exact ⟨0, by omega, by omega, rfl⟩
  · rintro q hq _ ⟨i, rfl, hi, rfl⟩
    by_cases hlt : i < l.length
    · have w1' := w1n (i := i) (by omega)
      have h4 : (i : Int) < l.length := by omega
      have cv : ∀ hh, (cI l)[i]'hh = .int .i64 l[i] := fun hh => by simp [cI]
      simp [hlt, h4, r, r', cv, w1', St.tidy]
      exact ⟨l.length - (i + 1), by omega, i + 1, by omega, by omega, by omega⟩
    · obtain rfl : i = l.length := by omega
      simp [r, r']
theorem one_cI (l : List Int) : (cI l).all Value.oneCell' = true := by simp [cI, Value.oneCell']
theorem c39 {d lim : Nat} {h : Heap} {b p : Nat} {l : List Int} (hb : h.get b = some ⟨cI l, true⟩) (hp : p = l.length) (h1 : 1 ≤ p) (h2 : p ≤ 60) :
    E.call (d + 1) lim 39 [.slice (some ⟨b, 0, none⟩) p 1] h = some (.slice (some ⟨h.length, 0, none⟩) p 1, h ++ [some ⟨cI l, true⟩]) := by
  have hbl := Heap.get_lt hb
  have g : h.freeze.get b = some ⟨cI l, false⟩ := hget_freeze (k := ⟨cI l, true⟩) hb
  have g' : ∀ L, Heap.get (h.freeze ++ L) b = some ⟨cI l, false⟩ := fun L => by rw [Heap.get_append_lt (by simpa using hbl)]; exact g
  have m1 : p * 8 ≤ 140737488355328 := by omega
  have m2 : p ≤ 9223372036854775807 := by omega
  have one := one_cI l
  have tk : List.take p (cI l) = cI l := List.take_of_length_le (by simp [cI, hp])
  have lc : (cI l).length = p := by simp [cI, hp]
  have n0 : p ≠ 0 := by omega
  refine call_pure fn39 rfl (by simp [ef39]) ?_
  simp [ef39, E.append, E.added, maxLen, hbl, g, g', lc, n0, tk, one, m1, m2]
/-- What a check of a way round wants. -/
structure Way (n : Nat) (l : List Bd) (r : List Int) (f : Nat → Nat) : Prop where
  p1 : 1 ≤ r.length
  pn : r.length ≤ 60
  at_ : ∀ i, i < r.length → r[i]? = some ((f i : Nat) : Int)
  lt : ∀ i, i < r.length → f i < l.length
/-- The bound with some number. -/
def bdA (l : List Bd) (i : Nat) : Bd := l[i]?.getD (0, 0, 0)
theorem bdA_get {l : List Bd} {i : Nat} (h : i < l.length) : l[i] = bdA l i := by unfold bdA; rw [List.getElem?_eq_getElem h]; rfl
/-- The sum of the first bounds of a list of numbers. -/
def sumF (l : List Bd) (f : Nat → Nat) : Nat → Int
  | 0 => 0
  | k + 1 => sumF l f k + (bdA l (f k)).2.2
theorem sumF_bd {n : Nat} {l : List Bd} (G : Good n l) {r : List Int} {f : Nat → Nat} (Wy : Way n l r f) : ∀ k : Nat, k ≤ r.length → -1000000000 * (k : Int) ≤ sumF l f k ∧ sumF l f k ≤ 1000000000 * (k : Int)
  | 0, _ => by simp [sumF]
  | k + 1, hk => by
    have a := sumF_bd G Wy k (by omega)
    have b := G.rng (f k) (Wy.lt k (by omega))
    rw [bdA_get (Wy.lt k (by omega))] at b
    simp only [sumF]; omega
def prevI (p i : Nat) : Nat := if i = 0 then p - 1 else i - 1
theorem c10 {d lim : Nat} {h : Heap} {p i : Nat} (h1 : 1 ≤ p) (h2 : p ≤ 60) (hi : i < p) : E.call (d + 1) lim 10 [i6 ((i : Int) - 1), i6 (p : Int)] h = some (i6 ((prevI p i : Nat) : Int), h) := by
  refine call1 fn10 rfl (by simp [ef10]) ?_
  have p0 : p ≠ 0 := by omega
  have p0' : ¬ ((p : Int) = 0) := by omega
  rcases Nat.eq_zero_or_pos i with z | z
  · subst z
    rcases Nat.lt_or_ge 1 p with q | q
    · have e : qmod (-1) (p : Int) = -1 := by
        unfold qmod
        rw [show (-1 : Int) = -(1 : Int) from rfl, Int.neg_tmod, Int.tmod_eq_emod_of_nonneg (by omega), Int.emod_eq_of_lt (by omega) (by omega)]
      have w : IntKind.wrap .i64 (-1 + (p : Int)) = ((p - 1 : Nat) : Int) := by rw [wrap_eq (by omega) (by omega)]; omega
      simp [ef10, e, w, p0, p0', prevI]
    · obtain rfl : p = 1 := by omega
      have e : qmod (-1) 1 = 0 := by decide
      simp [ef10, e, prevI]
  · have e : qmod ((i : Int) - 1) (p : Int) = ((i - 1 : Nat) : Int) := by
      unfold qmod
      rw [show (i : Int) - 1 = ((i - 1 : Nat) : Int) by omega, Int.tmod_eq_emod_of_nonneg (by omega), Int.emod_eq_of_lt (by omega) (by omega)]
    have nn : ¬ (((i - 1 : Nat) : Int) < 0) := by omega
    have z0 : i ≠ 0 := by omega
    generalize hii : i - 1 = i' at *
    simp [ef10, e, p0, p0', nn, Int.not_lt.1 nn, prevI, z0]
    rw [hii]
theorem c38 {d lim : Nat} {h : Heap} {v w : Value} {n : Nat} {l : List Bd} {r : List Int} {f : Nat → Nat} (s : SlB3 h v (l.map iB)) (t : SlI' h w r) (G : Good n l) (Wy : Way n l r f) (hl : l.length ≤ 210) (he : chkS n (l.map iB) = 0)
    (hc : ∀ i, i < r.length → (bdA l (f i)).1 = (bdA l (f (prevI r.length i))).2.1) (hs : sumF l f r.length < 0) :
    E.call (d + 3) lim 38 [i6 (n : Int), v, w] h = some (.tuple #[i6 (sumF l f r.length), i6 0], h) := by
  have ml : (l.map iB).length = l.length := by simp
  have rv := s.rules2
  have rw' := t.rules2
  rw [ml] at rv
  have p1 := Wy.p1
  have pn := Wy.pn
  have wp : within (r.length : Int) 1 60 = true := by simp [within]; omega
  have l1 : 1 ≤ l.length := by have := Wy.lt 0 (by omega); omega
  have wl : IntKind.wrap .i64 ((l.length : Int) - 1) = (l.length : Int) - 1 := by rw [wrap_eq (by omega) (by omega)]
  have k36 := fun lim => c60 (d := d) (lim := lim) (n := (n : Int)) (Sl_freeze.2 s)
  have wr : IntKind.wrap .i64 ((r.length : Int) - 1) = ((r.length - 1 : Nat) : Int) := by rw [wrap_eq (by omega) (by omega)]; omega
  have il : r.length - 1 < r.length := by omega
  have il' : ((r.length - 1 : Nat) : Int) < r.length := by omega
  have al := Wy.at_ _ il
  have cvl : ∀ hh, (cI r)[r.length - 1]'hh = .int .i64 ((f (r.length - 1) : Nat) : Int) := fun hh => by
    rw [List.getElem?_eq_getElem il] at al
    simp [cI, Option.some.inj al]
  refine call1 fn38 rfl (by simp [ef38]) ?_
  simp [ef38, k36, he, rv, rw', c61, wp]
  refine wpC_loop (fun q st => ∃ i : Nat, q = r.length - i ∧ i ≤ r.length ∧ st = ⟨[(1, v), (2, w), (25, w), (26, i6 (r.length : Int)), (27, i6 (i : Int))], h.freeze⟩) r.length (by show r.length < 2 ^ 64; omega) ?_ ?_
  · simp [St.tidy, rv, rw']
    exact ⟨0, by omega, by omega, rfl⟩
  · rintro q hq _ ⟨i, rfl, hi, rfl⟩
    by_cases hlt : i < r.length
    · have w1' := w1n (i := i) (by omega)
      have h4 : (i : Int) < r.length := by omega
      have a := Wy.at_ i hlt
      have b := Wy.lt i hlt
      have cv : ∀ hh, (cI r)[i]'hh = .int .i64 ((f i : Nat) : Int) := fun hh => by
        rw [List.getElem?_eq_getElem hlt] at a
        simp [cI, Option.some.inj a]
      have wi : within ((f i : Nat) : Int) 0 ((l.length : Int) - 1) = true := by simp [within]; omega
      simp [hlt, h4, rv, rw', cv, c61, wl, wi, w1', St.tidy]
      exact ⟨r.length - (i + 1), by omega, i + 1, by omega, by omega, by omega⟩
    · obtain rfl : i = r.length := by omega
      simp [rw', wr, cvl, il, il']
      refine wpC_loop (fun q st => ∃ i : Nat, q = r.length - i ∧ i ≤ r.length ∧ st = ⟨[(1, v), (11, i6 (sumF l f i)), (12, i6 ((f (prevI r.length i) : Nat) : Int)), (44, w), (45, i6 (r.length : Int)), (46, i6 (i : Int))], h.freeze⟩) r.length (by show r.length < 2 ^ 64; omega) ?_ ?_
      · simp [St.tidy, rv, rw']
        exact ⟨0, by omega, by omega, rfl, rfl, rfl⟩
      · rintro q hq _ ⟨i, rfl, hi, rfl⟩
        by_cases hlt : i < r.length
        · have w1' := w1n (i := i) (by omega)
          have h4 : (i : Int) < r.length := by omega
          have hpi : prevI r.length i < r.length := by unfold prevI; split <;> omega
          have a := Wy.at_ i hlt
          have b := Wy.lt i hlt
          have b' := Wy.lt _ hpi
          have cv : ∀ hh, (cI r)[i]'hh = .int .i64 ((f i : Nat) : Int) := fun hh => by
            rw [List.getElem?_eq_getElem hlt] at a
            simp [cI, Option.some.inj a]
          have e0 := cB_0 (show f i < (l.map iB).length by rw [ml]; exact b)
          have e2 := cB_2 (show f i < (l.map iB).length by rw [ml]; exact b)
          have e1 := cB_1 (show f (prevI r.length i) < (l.map iB).length by rw [ml]; exact b')
          rw [atB_iB b, bdA_get b] at e0 e2
          rw [atB_iB b', bdA_get b'] at e1
          simp only [iB] at e0 e1 e2
          rw [hc i hlt] at e0
          have sb := sumF_bd G Wy (i + 1) hlt
          have ws : IntKind.wrap .i64 (sumF l f i + (bdA l (f i)).2.2) = sumF l f (i + 1) := by
            rw [wrap_eq (by simp only [sumF] at sb; omega) (by simp only [sumF] at sb; omega)]; rfl
          have k0 : f i * 3 < l.length * 3 := by omega
          have k2 : f i * 3 + 2 < l.length * 3 := by omega
          have k1 : f (prevI r.length i) * 3 + 1 < l.length * 3 := by omega
          have i1 : ((f i : Nat) : Int) < l.length := by omega
          have i2 : ((f (prevI r.length i) : Nat) : Int) < l.length := by omega
          have hnx : f (prevI r.length (i + 1)) = f i := by simp [prevI]
          generalize bdA l (f (prevI r.length i)) = B1 at *
          generalize f (prevI r.length i) = f1 at *
          generalize bdA l (f i) = B2 at *
          generalize hfi : f i = f2 at *
          generalize hS : sumF l f i = S1 at *
          generalize hS2 : sumF l f (i + 1) = S2 at *
          simp [hlt, h4, rv, rw', cv, e0, e1, e2, k0, k1, k2, i1, i2, b, b', ws, w1', St.tidy]
          exact ⟨r.length - (i + 1), by omega, i + 1, by omega, by omega, hS2.symm, by rw [hnx], by omega⟩
        · obtain rfl : i = r.length := by omega
          generalize sumF l f r.length = S at *
          have nn : ¬ (0 ≤ S) := by omega
          simp [rw', hs, nn]
end V
end Go.Abs
/- Systems of differences: the plain facts of the law. -/
namespace Go.Abs
namespace V
set_option maxRecDepth 100000
set_option maxHeartbeats 0
theorem toBd {n : Int} {l0 : List B3i} (h : chkS n l0 = 0) : ∃ (k : Nat) (l : List Bd), n = (k : Int) ∧ 1 ≤ k ∧ k ≤ 60 ∧ l0 = l.map iB ∧ Good k l ∧ l.length ≤ 200 := by
  unfold chkS at h
  split at h
  · rename_i hn
    split at h
    · omega
    · rename_i hl
      obtain ⟨k, rfl, h1, h2⟩ := within_nat hn
      have all := fun j hj => chkBL_all l0.length 0 (by omega) h j (Nat.zero_le j) hj
      have fact : ∀ j (hj : j < l0.length), (0 ≤ l0[j].1 ∧ l0[j].1 < k) ∧ (0 ≤ l0[j].2.1 ∧ l0[j].2.1 < k) ∧ -1000000000 ≤ l0[j].2.2 ∧ l0[j].2.2 ≤ 1000000000 := fun j hj => by
        have := all j hj
        rw [← atB_get hj] at this
        unfold chkB at this
        split at this
        · split at this
          · split at this
            · rename_i a b c
              simp [within] at a b c
              omega
            · omega
          · omega
        · omega
      refine ⟨k, l0.map fun b => (b.1.toNat, b.2.1.toNat, b.2.2), rfl, h1, h2, ?_, ⟨fun i hi => ?_⟩, by simpa using hl⟩
      · apply List.ext_getElem?
        intro j
        rw [List.map_map]
        by_cases hj : j < l0.length
        · rw [List.getElem?_map, List.getElem?_eq_getElem hj]
          have := fact j hj
          simp only [Option.map_some, Function.comp_apply, iB]
          congr 1
          refine Prod.ext ?_ (Prod.ext ?_ rfl) <;> simp only <;> omega
        · rw [List.getElem?_eq_none (by omega), List.getElem?_eq_none (by simp; omega)]
      · have hi' : i < l0.length := by simpa using hi
        have := fact i hi'
        simp only [List.getElem_map]
        omega
  · omega
theorem tryR_len {n : Nat} {l : List Bd} (G : Good n l) : ∀ (m k : Nat) (X : List Int), tryR l n m k = some X → X.length = n
  | 0, k, X, h => by cases h
  | m + 1, k, X, h => by
    rw [tryR] at h
    split at h
    · rw [← Option.some.inj h]; exact (iter_ok G (k + 1)).1
    · exact tryR_len G m (k + 1) X h
theorem cycI_get (l : List Bd) (b : List Nat) (w : Nat) : ∀ p i, i < p → (cycI l b w p)[i]? = some ((gb b (back l b w i) : Nat) : Int)
  | 0, i, h => by omega
  | p + 1, i, h => by
    have ln := cycI_len l b w p
    simp only [cycI]
    by_cases e : i < p
    · rw [List.getElem?_append_left (by omega)]; exact cycI_get l b w p i e
    · have : i = p := by omega
      subst this
      rw [List.getElem?_append_right (by omega), ln, Nat.sub_self]; rfl
def fW (l : List Bd) (b : List Nat) (w p i : Nat) : Nat := gb b (back l b w (p - 1 - i))
theorem way_of {n : Nat} {l : List Bd} {b : List Nat} {w p : Nat} (C : Cyc n l b w p) (hn : n ≤ 60) : Way n l (cycI l b w p).reverse (fW l b w p) := by
  have ln := cycI_len l b w p
  have p1 := C.p1
  have pn := C.pn
  refine ⟨by simp [ln]; omega, by simp [ln]; omega, fun i hi => ?_, fun i hi => ?_⟩
  · rw [List.length_reverse, ln] at hi
    rw [List.getElem?_reverse (by omega), ln, cycI_get l b w p _ (by omega)]; rfl
  · rw [List.length_reverse, ln] at hi
    exact (C.ok (p - 1 - i) (by omega)).2.1
theorem bd_at {n : Nat} {l : List Bd} {b : List Nat} {w p : Nat} (C : Cyc n l b w p) {q : Nat} (hq : q ≤ p) : (bdA l (gb b (back l b w q))).2.1 = back l b w q ∧ (bdA l (gb b (back l b w q))).1 = back l b w (q + 1) ∧ (bdA l (gb b (back l b w q))).2.2 = wgt l b (back l b w q) := by
  obtain ⟨_, a, e⟩ := C.ok q hq
  rw [bdA_get a] at e
  refine ⟨e, ?_, ?_⟩
  · show _ = prev l b (back l b w q)
    unfold prev; rw [List.getElem?_eq_getElem a]; simp only; rw [bdA_get a]
  · unfold wgt; rw [List.getElem?_eq_getElem a]; simp only; rw [bdA_get a]
theorem chain_of {n : Nat} {l : List Bd} {b : List Nat} {w p : Nat} (C : Cyc n l b w p) : ∀ i, i < p → (bdA l (fW l b w p i)).1 = (bdA l (fW l b w p (prevI p i))).2.1 := fun i hi => by
  have p1 := C.p1
  unfold fW
  rw [(bd_at C (show p - 1 - i ≤ p by omega)).2.1]
  rcases Nat.eq_zero_or_pos i with z | z
  · subst z
    have : prevI p 0 = p - 1 := rfl
    rw [this, show p - 1 - (p - 1) = 0 by omega, (bd_at C (Nat.zero_le p)).1, show p - 1 - 0 + 1 = p by omega]
    exact C.close
  · have : prevI p i = i - 1 := by unfold prevI; rw [if_neg (by omega)]
    rw [this, (bd_at C (show p - 1 - (i - 1) ≤ p by omega)).1]
    congr 1; omega
theorem sum_of {n : Nat} {l : List Bd} {b : List Nat} {w p : Nat} (C : Cyc n l b w p) : ∀ k, k ≤ p → sumF l (fW l b w p) k = sumB l b w p - sumB l b w (p - k)
  | 0, _ => by simp [sumF]
  | k + 1, hk => by
    have ih := sum_of C k (by omega)
    simp only [sumF]
    rw [ih]
    have e : p - k = (p - (k + 1)) + 1 := by omega
    have e2 : sumB l b w (p - k) = sumB l b w (p - (k + 1)) + wgt l b (back l b w (p - (k + 1))) := by rw [e]; rfl
    have e3 : (bdA l (fW l b w p k)).2.2 = wgt l b (back l b w (p - (k + 1))) := by
      unfold fW
      rw [show p - 1 - k = p - (k + 1) by omega]
      exact (bd_at C (by omega)).2.2
    omega
theorem sum_all {n : Nat} {l : List Bd} {b : List Nat} {w p : Nat} (C : Cyc n l b w p) : sumF l (fW l b w p) p < 0 := by
  rw [sum_of C p (Nat.le_refl p), Nat.sub_self]
  have := C.neg
  simp only [sumB]; omega
end V
end Go.Abs
