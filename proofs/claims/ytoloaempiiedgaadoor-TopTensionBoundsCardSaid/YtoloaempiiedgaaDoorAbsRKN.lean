--
import Derived.Test.YtoloaempiiedgaaDoorAbsRKM
set_option linter.unusedSimpArgs false
set_option linter.unusedVariables false
namespace Go.Abs
namespace R
set_option maxRecDepth 100000
set_option maxHeartbeats 0
def potS (prev s : List Int) (a b : Nat) : List Int := s.set b (min (gx s b) (IntKind.wrap .i64 (gx prev a + gapV a b)))
def iniR (A : List Bool) (i : Nat) : List Int := A.map fun b => if b = true ∧ 0 < i then 1000000 else 0
def potR (A : Nat → List Bool) (P : Nat → List XR) (jp : Int) (m : Nat) : Nat → List Int
 | 0 => iniR (A 0) 0
 | i + 1 => runP (togB A P jp i) (fun _ _ _ => true) (potS (potR A P jp m i)) (prs m) (iniR (A (i + 1)) (i + 1))
theorem runP_len {tog : Nat → Nat → Bool} {prev : List Int} : ∀ (l : List (Nat × Nat)) (s : List Int), (runP tog (fun _ _ _ => true) (potS prev) l s).length = s.length
 | [], s => rfl
 | (a, b) :: r, s => by
  unfold runP
  split
  ·rw [if_pos rfl, runP_len r]; simp [potS]
  ·exact runP_len r s
theorem iniR_len (A : List Bool) (i : Nat) : (iniR A i).length = A.length := by simp [iniR]
theorem potR_len {A : Nat → List Bool} {P : Nat → List XR} {jp : Int} {m n : Nat} (ha : ∀ i, i < n → (A i).length = m) : ∀ i, i < n → (potR A P jp m i).length = m
 | 0, h => by rw [potR, iniR_len, ha 0 h]
 | i + 1, h => by rw [potR, runP_len, iniR_len, ha _ h]
abbrev rec44 (us : List Value) (st : Int) : Option Blk := some ⟨.int .i64 (36 : Nat) :: .int .i64 (0 : Nat) :: .int .i64 st :: us, true⟩
theorem set_back {α : Type} {M : List α} {r c : Nat} {a x y : α} (h : r ≠ c) (hr : M[r]? = some a) : ((M.set r y).set c x).set r a = M.set c x := by
 apply List.ext_getElem?
 intro j
 have hl : r < M.length := by
  rcases Nat.lt_or_ge r M.length with z | z
  ·exact z
  ·rw [List.getElem?_eq_none z] at hr; cases hr
 by_cases q : j = r
 ·subst q
  rw [List.getElem?_set_self (by simpa using hl), List.getElem?_set_ne (by omega), hr]
 ·rw [List.getElem?_set_ne (by omega)]
  by_cases q2 : j = c
  ·subst q2
   by_cases q3 : j < M.length
   ·rw [List.getElem?_set_self (by simpa using q3), List.getElem?_set_self q3]
   ·rw [List.getElem?_eq_none (by simpa using q3), List.getElem?_eq_none (by simpa using q3)]
  ·rw [List.getElem?_set_ne (by omega), List.getElem?_set_ne (by omega), List.getElem?_set_ne (by omega)]
theorem r44 {d lim i m x y r bo c1 c4 c6 cl : Nat} {H : Heap} {M : List (Option Blk)} {cs : List Value} {prev s : List Int} (hx : x < m) (hy : y < m) (hi : 0 < i) (hi2 : i ≤ 1000)
  (e0 : M[0]? = some (some ⟨[.slice (some ⟨H.length + bo, 0, none⟩) (i + 1) 1], true⟩)) (eb : M[bo]? = some (some ⟨cs, true⟩)) (ecs : cs[i - 1]? = some (.slice (some ⟨H.length + c1, 0, none⟩) m 1)) (e1 : M[c1]? = some (some ⟨cI prev, true⟩)) (hp : prev.length = m)
  (e4 : M[c4]? = some (some ⟨[i64 (i : Int)], true⟩)) (e6 : M[c6]? = some (some ⟨[.slice (some ⟨H.length + cl, 0, none⟩) m 1], true⟩)) (el : M[cl]? = some (some ⟨cI s, true⟩)) (hs : s.length = m)
  (er : M[r]? = some (rec44 [pB H.length, pB (H.length + c4), pB (H.length + c6)] 0)) (n0 : r ≠ 0) (nb : r ≠ bo) (n1 : r ≠ c1) (n4 : r ≠ c4) (n6 : r ≠ c6) (nl : r ≠ cl) :
  EProg.roundOf E (E.call (d + 1)) lim (H.length + r) [i64 (x : Int), i64 (y : Int)] (H ++ M) = some (.bool true, H ++ M.set cl (some ⟨cI (potS prev s x y), true⟩)) := by
 have key : ∃ w h', EProg.roundOf E (E.call (d + 1)) lim (H.length + r) [i64 (x : Int), i64 (y : Int)] (H ++ M) = some (w, h') ∧ w = .bool true ∧ h' = H ++ M.set cl (some ⟨cI (potS prev s x y), true⟩) := by
  have lr := lget_lt er
  have ll := lget_lt el
  refine round1 (us := [pB H.length, pB (H.length + c4), pB (H.length + c6)]) (by rw [hget_base rfl, er]; rfl) fn36 rfl rfl ?_
  have G : ∀ st, (M.set r (rec44 [pB H.length, pB (H.length + c4), pB (H.length + c6)] st))[r]? = some (rec44 [pB H.length, pB (H.length + c4), pB (H.length + c6)] st) := fun st => List.getElem?_set_self lr
  have LS0 : Heap.loopSt (H ++ M) (H.length + r) = some 0 := loopSt_get (by rw [hget_base rfl, er]; rfl)
  have SL0 : ∀ st, Heap.setLoop (H ++ M) (H.length + r) st = some (H ++ M.set r (rec44 [pB H.length, pB (H.length + c4), pB (H.length + c6)] st)) := fun st => by rw [setLoop_get (by rw [hget_base rfl, er]; rfl), hput_base rfl]
  have g0 : (M.set r (rec44 [pB H.length, pB (H.length + c4), pB (H.length + c6)] (-1)))[0]? = some (some ⟨[.slice (some ⟨H.length + bo, 0, none⟩) (i + 1) 1], true⟩) := by rw [List.getElem?_set_ne n0, e0]
  have gb : (M.set r (rec44 [pB H.length, pB (H.length + c4), pB (H.length + c6)] (-1)))[bo]? = some (some ⟨cs, true⟩) := by rw [List.getElem?_set_ne nb, eb]
  have g1 : (M.set r (rec44 [pB H.length, pB (H.length + c4), pB (H.length + c6)] (-1)))[c1]? = some (some ⟨cI prev, true⟩) := by rw [List.getElem?_set_ne n1, e1]
  have g4 : (M.set r (rec44 [pB H.length, pB (H.length + c4), pB (H.length + c6)] (-1)))[c4]? = some (some ⟨[i64 (i : Int)], true⟩) := by rw [List.getElem?_set_ne n4, e4]
  have g6 : (M.set r (rec44 [pB H.length, pB (H.length + c4), pB (H.length + c6)] (-1)))[c6]? = some (some ⟨[.slice (some ⟨H.length + cl, 0, none⟩) m 1], true⟩) := by rw [List.getElem?_set_ne n6, e6]
  have gl : (M.set r (rec44 [pB H.length, pB (H.length + c4), pB (H.length + c6)] (-1)))[cl]? = some (some ⟨cI s, true⟩) := by rw [List.getElem?_set_ne nl, el]
  have SL1 : ∀ X, Heap.setLoop (H ++ (M.set r (rec44 [pB H.length, pB (H.length + c4), pB (H.length + c6)] (-1))).set cl X) (H.length + r) 0 = some (H ++ M.set cl X) := fun X => by
   rw [setLoop_get (a := .int .i64 (36 : Nat)) (b := .int .i64 (0 : Nat)) (c := .int .i64 (-1)) (us := [pB H.length, pB (H.length + c4), pB (H.length + c6)]) (by rw [hget_base rfl, List.getElem?_set_ne (by omega), G]; rfl), hput_base rfl, set_back nl er]
  have tk : ∀ X, List.take (H.length + M.length) (H ++ M.set cl X) = H ++ M.set cl X := fun X => List.take_of_length_le (by simp)
  obtain ⟨j, rfl⟩ := Nat.exists_eq_succ_of_ne_zero (show i ≠ 0 by omega)
  have wi : IntKind.wrap .i64 (((j.succ : Nat) : Int) - 1) = j := by rw [wrap_eq (by omega) (by omega)]; omega
  simp only [Nat.succ_eq_add_one] at *
  have wj : IntKind.wrap .i64 (j : Int) = j := wrap_eq (by omega) (by omega)
  have lx : (x : Int) < m := by omega
  have ly : (y : Int) < m := by omega
  have lj : (j : Int) < (j : Int) + 1 + 1 := by omega
  have k47 := fun lim H a b => c39 (d := d) (lim := lim) (h := H) (a := a) (b := b)
  have cx := cI_gx (x := prev) (v := x) (by omega)
  have cy := cI_gx (x := s) (v := y) (by omega)
  have ys : y < s.length := by omega
  have xs : x < prev.length := by omega
  rw [Nat.add_sub_cancel] at ecs
  have na : ∀ z, noAddr (i64 z) = true := fun z => rfl
  have px : ∀ hh, (cI prev)[x]'hh = i64 (gx prev x) := fun hh => by simp [cI, gx, List.getD_eq_getElem?_getD, List.getElem?_eq_getElem xs]
  have py : ∀ hh, (cI s)[y]'hh = i64 (gx s y) := fun hh => by simp [cI, gx, List.getD_eq_getElem?_getD, List.getElem?_eq_getElem ys]
  have js : j < cs.length := by
   rcases Nat.lt_or_ge j cs.length with z | z
   ·exact z
   ·rw [List.getElem?_eq_none z] at ecs; cases ecs
  simp [roundFrame, LS0, SL0, SL1, g0, gb, g1, g4, g6, gl, wi, wj, show y + 1 ≤ m by omega, lx, ly, lj, ecs, cx, cy, px, py, ys, xs, k47, hs, hp, hx, hy, tk, potS, na, cI_set]
 obtain ⟨_, _, e, rfl, rfl⟩ := key
 exact e
end R
end Go.Abs
namespace Go.Abs
namespace R
set_option maxRecDepth 100000
set_option maxHeartbeats 0
structure PI (base i m : Nat) (L : List (Option Blk)) (R : Nat → List Int) (vs : Nat → Value) (ov : Value) (bo : Nat) : Prop where
 e0 : L[0]? = some (some ⟨[ov], true⟩)
 o : OutS base L bo ov ((List.range i).map vs)
 b1 : 1 ≤ bo
 row : ∀ j, j < i → ∃ c, 1 ≤ c ∧ c ≠ bo ∧ vs j = .slice (some ⟨base + c, 0, none⟩) m 1 ∧ L[c]? = some (some ⟨cI (R j), true⟩)
theorem PI.nl {H : Heap} {n m : Nat} {L : List (Option Blk)} {R : Nat → List Int} {vs : Nat → Value} {ov : Value} {bo : Nat} (g : PI H.length n m L R vs ov bo) (hR : ∀ i, i < n → (R i).length = m) : NL (H ++ L) ov n vs R :=
 ⟨g.o.sl (by simp), fun i hi => by
  obtain ⟨c, _, _, e, h⟩ := g.row i hi
  rw [e]
  have := Sl_one1 (h := H ++ L) (b := H.length + c) (n := m) (cs := cI (R i)) (rw := true) (by rw [hget_base rfl, h]; rfl) (by simp [hR i hi])
  rw [← hR i hi] at this ⊢; exact this⟩
structure I44 (H : Heap) (b n m : Nat) (av : Value) (R : Nat → List Int) (q : Nat) (st : St) : Prop where
 ex : ∃ (i : Nat) (L : List (Option Blk)) (vs : Nat → Value) (ov : Value) (bo : Nat), q = n - i ∧ i ≤ n ∧ PI H.length i m L R vs ov bo ∧ st = ⟨[(0, pB b), (3, pB H.length), (14, av), (15, i64 (n : Int)), (16, i64 (i : Int))], H ++ L⟩
structure I44i (H : Heap) (b n m i : Nat) (av rv : Value) (L : List (Option Blk)) (row : List Int) (q : Nat) (st : St) : Prop where
 ex : ∃ (k : Nat), q = m - k ∧ k ≤ m ∧
  st = ⟨[(0, pB b), (3, pB H.length), (4, pB (H.length + L.length)), (6, pB (H.length + (L.length + 2))), (14, av), (15, i64 (n : Int)), (16, i64 (i : Int)), (24, rv), (25, i64 (m : Int)), (26, i64 (k : Int))],
   H ++ (L ++ [some ⟨[i64 (i : Int)], true⟩, some ⟨cI (fil 0 row k), true⟩, some ⟨[.slice (some ⟨H.length + (L.length + 1), 0, none⟩) m 1], true⟩])⟩
theorem ini_gx0 {R : List Bool} {i k : Nat} (h : k < R.length) : (iniR R i)[k]'(by rw [iniR_len]; exact h) = if bx R k = true ∧ 0 < i then 1000000 else 0 := by simp [iniR, bx, h]
theorem PI.step {base i m : Nat} {L L' : List (Option Blk)} {R : Nat → List Int} {vs : Nat → Value} {ov : Value} {bo n c' : Nat} (g : PI base i m L R vs ov bo) (h0 : L'[0]? = some (some ⟨[.slice (some ⟨base + (L.length + 4), 0, none⟩) n 1], true⟩)) (hn : n = i + 1) (hc : c' = L.length + 1)
  (old : ∀ j, j < L.length → j ≠ 0 → j ≠ bo → L'[j]? = L[j]?) (ho : L'[L.length + 4]? = some (some ⟨(List.range i).map vs ++ [.slice (some ⟨base + c', 0, none⟩) m 1], true⟩)) (hl : L'[c']? = some (some ⟨cI (R i), true⟩)) :
  PI base (i + 1) m L' R (updV vs i (.slice (some ⟨base + c', 0, none⟩) m 1)) (.slice (some ⟨base + (L.length + 4), 0, none⟩) n 1) (L.length + 4) := by
 subst hc
 refine ⟨h0, by rw [updV_map]; exact OutS.mk ho (by simp [hn]) (by simp), by omega, fun j hj => ?_⟩
 by_cases q : j = i
 ·subst q
  exact ⟨L.length + 1, by omega, by omega, by simp [updV], hl⟩
 ·obtain ⟨c, c1, c2, c3, c4⟩ := g.row j (by omega)
  have := lget_lt c4
  exact ⟨c, c1, by omega, by simp [updV, q, c3], by rw [old c this (by omega) c2, c4]⟩
theorem c36 {d lim b n m : Nat} {H : Heap} {A : Nat → List Bool} {P : Nat → List XR} {jp : Int} (g : GD H b n A P jp) (hn : n ≤ 1000) (ha : ∀ i, i < n → (A i).length = m) (hp : ∀ i, i < n → (P i).length = m) (hm : m ≤ 1000) (hlim : lim ≤ H.length) :
  ∃ v K vs, E.call (d + 4) lim 36 [pB b] H = some (v, H ++ K) ∧ NL (H ++ K) v n vs (potR A P jp m) ∧ (∀ i, i < n → H.length ≤ slB (vs i)) ∧ (0 < n → H.length ≤ slB v) := by
 have key : ∃ v h', E.call (d + 4) lim 36 [pB b] H = some (v, h') ∧ ∃ K vs, h' = H ++ K ∧ NL (H ++ K) v n vs (potR A P jp m) ∧ (∀ i, i < n → H.length ≤ slB (vs i)) ∧ (0 < n → H.length ≤ slB v) := by
  obtain ⟨av, pv, rw', as, ps, e, sa, sp, ra, rp⟩ := g.ex
  have ck := fun o => cell_get (o := o) e
  have ckM := fun (M : Heap) o => cell_get (o := o) (hget_append (l := M) e)
  have r1 := sa.rules2
  have hb := Heap.get_lt e
  have glim : ∀ k, lim ≤ H.length + k := fun k => by omega
  have na : ∀ z, noAddr (i64 z) = true := fun z => rfl
  have hp : ∀ b, Heap.push H b = H ++ [some b] := fun _ => rfl
  refine full_ex fn36 rfl (by simp [ef36]) ?_
  simp [ef36, hp, ck, ckM, r1]
  refine wpC_loop (fun y st => I44 H b n m av (potR A P jp m) y st) n (by show n < 2 ^ 64; omega) ?_ ?_
  ·simp [St.tidy]
   exact ⟨⟨0, _, fun _ => undef, .slice none 0 0, 1, by omega, by omega, ⟨rfl, OutS.nil, by omega, fun j hj => by omega⟩, rfl⟩⟩
  ·rintro y hy _ ⟨i, L, vs, ov, bo, rfl, hi, pi, rfl⟩
   have L0 := lget_lt pi.e0
   have E0 := pi.e0
   by_cases lt : i < n
   ·have lti : (i : Int) < n := by omega
    have w1' := w1 (i := i) (by omega)
    simp only [W] at w1'
    have a1 := as_get as lt
    have r3 := (ra i lt).rules2
    rw [ha i lt] at r3
    have g1 : 8 * (m : Int) ≤ 140737488355328 := by omega
    have g2 : (m : Int) ≤ 9223372036854775807 := by omega
    have g0 : (0 : Int) ≤ m := by omega
    have z1 : zeros [i64 0] m = cI (List.replicate m 0) := by simp [zeros, cI]
    have bol : (List.range i).map vs ≠ [] → bo < L.length := fun e => by
     have h := pi.o; unfold OutS at h; rw [if_neg e] at h; exact lget_lt h.2
    simp [lt, lti, Nat.not_le.2 lt, r1, a1, r3, g0, g1, g2, z1, maxLen, lget_left, lget_right, lget_right0, lset_left, lset_right, lset_right0, L0, E0, lgetE E0, glim, na]
    have fz : fil 0 (iniR (A i) i) 0 = List.replicate m 0 := by rw [fil_0, iniR_len, ha i lt]
    refine wpC_loop (fun y st => I44i H b n m i av (as i) L (iniR (A i) i) y st) m (by show m < 2 ^ 64; omega) ?_ ?_
    ·simp [St.tidy]
     exact ⟨⟨0, by omega, by omega, by rw [fz]; rfl⟩⟩
    ·rintro y hy _ ⟨k, rfl, hk, rfl⟩
     by_cases lt2 : k < m
     ·have lti2 : (k : Int) < m := by omega
      have wk := w1 (i := k) (by omega)
      simp only [W] at wk
      have b1 := cBl_bx (l := A i) (k := k) (by rw [ha i lt]; exact lt2)
      have qb := fun hh => cBl_bxe (l := A i) (k := k) hh
      have ki : k < (iniR (A i) i).length := by rw [iniR_len, ha i lt]; exact lt2
      have kg : (iniR (A i) i)[k] = if bx (A i) k = true ∧ 0 < i then 1000000 else 0 := by
       have := ini_gx0 (R := A i) (i := i) (k := k) (by rw [ha i lt]; exact lt2)
       exact this
      have fl1 : (cI (fil 0 (iniR (A i) i) k)).length = m := by rw [cI_len, fil_len (by omega), iniR_len, ha i lt]
      rcases h1 : bx (A i) k with _ | _
      ·rw [h1] at b1
       simp only [h1] at qb
       have fs := fil_same (z := (0 : Int)) ki (by rw [kg, h1]; simp)
       simp [lt2, lti2, Nat.not_le.2 lt2, r3, b1, qb, wk, St.tidy]
       exact ⟨m - (k + 1), by omega, ⟨k + 1, rfl, by omega, by rw [fs]; rfl⟩⟩
      ·rw [h1] at b1
       simp only [h1] at qb
       rcases Nat.eq_zero_or_pos i with z | z
       ·have fs := fil_same (z := (0 : Int)) ki (by rw [kg, z]; simp)
        subst z
        simp [lt2, lti2, Nat.not_le.2 lt2, r3, b1, qb, wk, St.tidy, lget_right, lget_right0]
        exact ⟨m - (k + 1), by omega, ⟨k + 1, rfl, by omega, by rw [fs]; rfl⟩⟩
       ·have fs := fil_step (z := (0 : Int)) ki
        rw [kg, h1, if_pos ⟨rfl, z⟩] at fs
        have zi : (0 : Int) < i := by omega
        simp [lt2, lti2, Nat.not_le.2 lt2, r3, b1, qb, wk, St.tidy, lget_right, lget_right0, lset_right, lset_right0, z, zi, fl1, na, cI_set, fs]
        exact ⟨by omega, m - (k + 1), by omega, ⟨k + 1, rfl, by omega, rfl⟩⟩
     ·obtain rfl : k = m := by omega
      have fa : fil 0 (iniR (A i) i) k = iniR (A i) i := by have := fil_all (z := (0 : Int)) (l := iniR (A i) i); rwa [iniR_len, ha i lt] at this
      obtain ⟨M, hM⟩ : ∃ M, M = L ++ [some (Blk.mk [i64 (i : Int)] true), some (Blk.mk (cI (iniR (A i) i)) true), some (Blk.mk [.slice (some ⟨H.length + (L.length + 1), 0, none⟩) k 1] true)] := ⟨_, rfl⟩
      have Ml : M.length = L.length + 3 := by rw [hM]; simp
      have M0 : M[0]? = some (some ⟨[ov], true⟩) := by rw [hM, lget_left L0, E0]
      have M6 : M[L.length + 2]? = some (some ⟨[.slice (some ⟨H.length + (L.length + 1), 0, none⟩) k 1], true⟩) := by rw [hM, lget_right rfl]; rfl
      have M4 : M[L.length]? = some (some ⟨[i64 (i : Int)], true⟩) := by rw [hM, lget_right0 rfl]; rfl
      have Ml1 : M[L.length + 1]? = some (some ⟨cI (iniR (A i) i), true⟩) := by rw [hM, lget_right rfl]; rfl
      obtain ⟨o, o1, o2, o3, _, _⟩ := (pi.o.keep (L' := M) fun e => by rw [hM, lget_left (bol e)]).appendT (B := H) (bytes := 24) (x := .slice (some ⟨H.length + (L.length + 1), 0, none⟩) k 1) rfl (by simp; omega) (by simp; omega)
      obtain ⟨M3, hM3⟩ : ∃ M3, M3 = (outM M bo ((List.range i).map vs) ++ [some (Blk.mk [.slice (some ⟨H.length + (L.length + 1), 0, none⟩) k 1] true), some (Blk.mk ((List.range i).map vs ++ [.slice (some ⟨H.length + (L.length + 1), 0, none⟩) k 1]) true)]).set 0 (some (Blk.mk [.slice (some ⟨H.length + (L.length + 4), 0, none⟩) (i + 1) 1] true)) := ⟨_, rfl⟩
      have M3l : M3.length = L.length + 5 := by rw [hM3]; simp [Ml]
      have b1 := pi.b1
      have g3 : ∀ j, j < L.length + 3 → j ≠ 0 → (j = bo → (List.range i).map vs = []) → M3[j]? = M[j]? := fun j hj h0 hb => by
       rw [hM3, List.getElem?_set_ne (by omega), lget_left (by simp [Ml]; omega)]
       by_cases z : j = bo
       ·rw [hb z]; rfl
       ·exact outM_ne z
      have g30 : M3[0]? = some (some ⟨[.slice (some ⟨H.length + (L.length + 4), 0, none⟩) (i + 1) 1], true⟩) := by rw [hM3, List.getElem?_set_self (by simp [Ml])]
      have g34 : M3[L.length + 4]? = some (some ⟨(List.range i).map vs ++ [.slice (some ⟨H.length + (L.length + 1), 0, none⟩) k 1], true⟩) := by
       rw [hM3, List.getElem?_set_ne (by omega), show L.length + 4 = (outM M bo ((List.range i).map vs)).length + 1 by simp [Ml], lget_right rfl]; rfl
      have P3 : Heap.put (H ++ (outM M bo ((List.range i).map vs) ++ [some (Blk.mk [.slice (some ⟨H.length + (L.length + 1), 0, none⟩) k 1] true), some (Blk.mk ((List.range i).map vs ++ [.slice (some ⟨H.length + (L.length + 1), 0, none⟩) k 1]) true)])) H.length (some (Blk.mk [.slice (some ⟨H.length + (L.length + 4), 0, none⟩) (i + 1) 1] true)) = H ++ M3 := by
       rw [hput_base0 rfl, hM3]
      have ob0 : (outM M bo ((List.range i).map vs) ++ [some (Blk.mk [.slice (some ⟨H.length + (L.length + 1), 0, none⟩) k 1] true), some (Blk.mk ((List.range i).map vs ++ [.slice (some ⟨H.length + (L.length + 1), 0, none⟩) k 1]) true)])[0]? = some (some ⟨[ov], true⟩) := by
       rw [lget_left (by simp [Ml]), outM_ne (by omega), M0]
      have bL : ∀ c, c < L.length → c ≠ bo → (c = bo → (List.range i).map vs = []) := fun c _ h2 h3 => absurd h3 h2
      have nb : ∀ j, L.length ≤ j → (j = bo → (List.range i).map vs = []) := fun j hj e => by
       by_cases z : (List.range i).map vs = []
       ·exact z
       ·have := bol z; omega
      rw [fa]
      rw [← hM]
      rw [Ml, Nat.add_assoc] at o2
      simp only [Ml, Nat.add_assoc, List.length_map, List.length_range] at o1 o2
      obtain ⟨Ma, hMa⟩ : ∃ Ma, Ma = outM M bo ((List.range i).map vs) ++ [some (Blk.mk [.slice (some ⟨H.length + (L.length + 1), 0, none⟩) k 1] true), some (Blk.mk ((List.range i).map vs ++ [.slice (some ⟨H.length + (L.length + 1), 0, none⟩) k 1]) true)] := ⟨_, rfl⟩
      rw [← hMa] at o3 hM3 ob0
      have Mal : Ma.length = L.length + 5 := by rw [hMa]; simp [Ml]
      have ma0 : 0 < Ma.length := by omega
      have m0 : 0 < M.length := by omega
      have m2 : L.length + 2 < M.length := by omega
      have m4 : L.length < M.length := by omega
      have n34 : M3[L.length]? = some (some ⟨[i64 (i : Int)], true⟩) := by rw [g3 _ (by omega) (by omega) (nb _ (by omega))]; exact M4
      have n36 : M3[L.length + 2]? = some (some ⟨[.slice (some ⟨H.length + (L.length + 1), 0, none⟩) k 1], true⟩) := by rw [g3 _ (by omega) (by omega) (nb _ (by omega))]; exact M6
      have n31 : M3[L.length + 1]? = some (some ⟨cI (iniR (A i) i), true⟩) := by rw [g3 _ (by omega) (by omega) (nb _ (by omega))]; exact Ml1
      have old3 : ∀ j, j < L.length → j ≠ 0 → j ≠ bo → M3[j]? = L[j]? := fun j h1 h2 h3 => by
       rw [g3 j (by omega) h2 (fun e => absurd e h3), hM, lget_left h1]
      have m34 : L.length < M3.length := by omega
      rcases Nat.eq_zero_or_pos i with z | z
      ·subst z
       have e3 : Ma.set 0 (some (Blk.mk [.slice (some ⟨H.length + (L.length + 4), 0, none⟩) 1 1] true)) = M3 := by rw [hM3]
       simp [-Eff.apply, -Eff.writes, eff_none, eff_push, eff_write, effw_none, effw_push, effw_write, fillL, zeros, M0, M6, M4, lgetE M0, lgetE M6, lgetE M4, m0, m2, m4, Ml, lget_left, lget_right, lget_right0, lset_left, lset_right, lset_right0, glim, KOp_eq, Log.clash, o1, o2, o3, ob0, lgetE ob0, ma0, e3, n34, lgetE n34, m34, w1', St.tidy, hlim]
       exact ⟨n - 1, by omega, ⟨1, M3, updV vs 0 (.slice (some ⟨H.length + (L.length + 1), 0, none⟩) k 1), _, L.length + 4, rfl, by omega, pi.step g30 rfl rfl old3 g34 n31, rfl⟩⟩
      ·obtain ⟨j, rfl⟩ : ∃ j, i = j + 1 := ⟨i - 1, by omega⟩
       have wj : IntKind.wrap .i64 (j : Int) = j := wrap_eq (by omega) (by omega)
       have hbM : b < (H ++ M3).length := by rw [List.length_append]; omega
       have k144 := fun lim => c78 (d := d + 2) (lim := lim) (i := (j : Int)) hbM
       simp [M3l, Nat.add_assoc] at k144
       obtain ⟨M5, hM5⟩ : ∃ M5, M5 = M3 ++ [some (Blk.mk [pB b] true), some (Blk.mk [i64 (j : Int)] true), rec44 [pB H.length, pB (H.length + L.length), pB (H.length + (L.length + 2))] 0] := ⟨_, rfl⟩
       have M5l : M5.length = L.length + 8 := by rw [hM5]; simp [M3l]
       have low5 : ∀ q, q < L.length + 5 → M5[q]? = M3[q]? := fun q hq => by rw [hM5, lget_left (by omega)]
       have n55 : M5[L.length + 5]? = some (some ⟨[pB b], true⟩) := by rw [hM5, show L.length + 5 = M3.length by omega, lget_right0 rfl]; rfl
       have n56 : M5[L.length + 6]? = some (some ⟨[i64 (j : Int)], true⟩) := by rw [hM5, show L.length + 6 = M3.length + 1 by omega, lget_right rfl]; rfl
       have n57 : M5[L.length + 7]? = some (rec44 [pB H.length, pB (H.length + L.length), pB (H.length + (L.length + 2))] 0) := by rw [hM5, show L.length + 7 = M3.length + 2 by omega, lget_right rfl]; rfl
       have hM5' : M3 ++ [some (Blk.mk [pB b] true), some (Blk.mk [i64 (j : Int)] true), some (Blk.mk [.int .i64 36, .int .i64 0, .int .i64 0, pB H.length, pB (H.length + L.length), pB (H.length + (L.length + 2))] true)] = M5 := by rw [hM5]; rfl
       let F : List Int → Heap := fun s => H ++ M5.set (L.length + 1) (some ⟨cI s, true⟩)
       have F0 : F (iniR (A (j + 1)) (j + 1)) = H ++ M5 := by
        show H ++ M5.set _ _ = _
        congr 1
        apply List.ext_getElem?
        intro q
        by_cases e : q = L.length + 1
        ·subst e; rw [List.getElem?_set_self (by omega), low5 _ (by omega), n31]
        ·rw [List.getElem?_set_ne (by omega)]
       obtain ⟨cP, p1, p2, p3, p4⟩ := pi.row j (by omega)
       have pl := lget_lt p4
       have rl := iniR_len (A (j + 1)) (j + 1)
       rw [ha _ lt] at rl
       have k197 := fun lim => c113 (d := d) (lim := lim) (r := H.length + (L.length + 7)) (b1 := H.length + (L.length + 5)) (b2 := H.length + (L.length + 6)) (N := H.length + (L.length + 8)) (F := F) (ok := fun _ _ _ => true) (step := potS (potR A P jp k j)) (s0 := iniR (A (j + 1)) (j + 1)) (Inv := fun s => s.length = k) (i := j)
        (fun s => by show (H ++ M5.set _ _).length = _; simp [M5l]) (by omega)
        (fun s _ => ⟨true, by show Heap.get (H ++ _) _ = _; rw [hget_base rfl, List.getElem?_set_ne (by omega), n55]; rfl⟩)
        (fun s _ => ⟨true, by show Heap.get (H ++ _) _ = _; rw [hget_base rfl, List.getElem?_set_ne (by omega), n56]; rfl⟩)
        (fun s _ => g.app _) hn lt ha hp hm rl
        (fun s x y _ _ _ e => by show (potS _ s x y).length = k; unfold potS; rw [List.length_set]; exact e)
        (fun s x y hx hy _ e => by
         have R := r44 (d := d + 1) (lim := H.length + (L.length + 8)) (H := H) (M := M5.set (L.length + 1) (some ⟨cI s, true⟩)) (x := x) (y := y) (i := j + 1) (m := k) (r := L.length + 7) (bo := L.length + 4) (c1 := cP) (c4 := L.length) (c6 := L.length + 2) (cl := L.length + 1) (prev := potR A P jp k j) (s := s) hx hy (by omega) (by omega)
          (by rw [List.getElem?_set_ne (by omega), low5 _ (by omega)]; exact g30) (by rw [List.getElem?_set_ne (by omega), low5 _ (by omega)]; exact g34)
          (by rw [Nat.add_sub_cancel, List.getElem?_append_left (by simp), as_get vs (by omega), p3]) (by rw [List.getElem?_set_ne (by omega), low5 _ (by omega), old3 _ pl (by omega) p2]; exact p4) (potR_len ha j (by omega))
          (by rw [List.getElem?_set_ne (by omega), low5 _ (by omega)]; exact n34) (by rw [List.getElem?_set_ne (by omega), low5 _ (by omega)]; exact n36) (by rw [List.getElem?_set_self (by omega)]) e
          (by rw [List.getElem?_set_ne (by omega)]; exact n57) (by omega) (by omega) (by omega) (by omega) (by omega) (by omega)
         rw [List.set_set] at R
         exact R)
       rw [F0] at k197
       have eR : runP (togB A P jp j) (fun _ _ _ => true) (potS (potR A P jp k j)) (prs k) (iniR (A (j + 1)) (j + 1)) = potR A P jp k (j + 1) := rfl
       rw [eR] at k197
       have RE : ∀ f, rangeEnd (H.length + (L.length + 7)) f (H ++ M5.set (L.length + 1) (some ⟨cI (potR A P jp k (j + 1)), true⟩)) = some (.normal, ⟨f, H ++ (M5.set (L.length + 1) (some ⟨cI (potR A P jp k (j + 1)), true⟩)).set (L.length + 7) none⟩) := fun f => by
        rw [rangeEnd_get (s := 0) (by rw [hget_base rfl, List.getElem?_set_ne (by omega), n57]; rfl), hput_base rfl]; rfl
       obtain ⟨M6', hM6'⟩ : ∃ M6', M6' = (M5.set (L.length + 1) (some (Blk.mk (cI (potR A P jp k (j + 1))) true))).set (L.length + 7) none := ⟨_, rfl⟩
       rw [← hM6'] at RE
       have RE' : ∀ f, rangeEnd (H.length + (L.length + 7)) f (F (potR A P jp k (j + 1))) = some (.normal, ⟨f, H ++ M6'⟩) := RE
       have fin : ∀ q, q < L.length + 5 → q ≠ L.length + 1 → M6'[q]? = M3[q]? := fun q h1 h2 => by
        rw [hM6', List.getElem?_set_ne (by omega), List.getElem?_set_ne (by omega), low5 q h1]
       have fin1 : M6'[L.length + 1]? = some (some ⟨cI (potR A P jp k (j + 1)), true⟩) := by
        rw [hM6', List.getElem?_set_ne (by omega), List.getElem?_set_self (by omega)]
       simp [-Eff.apply, -Eff.writes, eff_none, eff_push, eff_write, effw_none, effw_push, effw_write, fillL, zeros, M0, M6, M4, lgetE M0, lgetE M6, lgetE M4, m0, m2, m4, Ml, lget_left, lget_right, lget_right0, lset_left, lset_right, lset_right0, glim, KOp_eq, Log.clash, o1, o2, o3, ob0, lgetE ob0, ma0, ← hM3, n34, lgetE n34, m34, w1', St.tidy, hlim, wj, k144, loopBlk, M3l, hM5', k197, RE', Nat.add_assoc]
       have wj2 : IntKind.wrap .i64 ((j : Int) + 1 + 1) = ((j + 2 : Nat) : Int) := by rw [wrap_eq (by omega) (by omega)]; omega
       rw [wj2]
       exact ⟨n - (j + 1 + 1), by omega, ⟨j + 1 + 1, M6', updV vs (j + 1) (.slice (some ⟨H.length + (L.length + 1), 0, none⟩) k 1), _, L.length + 4, rfl, by omega, pi.step (by rw [fin 0 (by omega) (by omega)]; exact g30) rfl rfl (fun q h1 h2 h3 => by rw [fin q (by omega) (by omega)]; exact old3 q h1 h2 h3) (by rw [fin _ (by omega) (by omega)]; exact g34) fin1, rfl⟩⟩
   ·obtain rfl : i = n := by omega
    simp [E0, lgetE E0, L0]
    refine ⟨vs, pi.nl (potR_len ha), fun j hj => ?_, fun h0 => ?_⟩
    ·obtain ⟨c, _, _, e, _⟩ := pi.row j hj
     rw [e]; simp [slB]
    ·have h := pi.o
     unfold OutS at h
     rw [if_neg (by simp; omega)] at h
     rw [h.1]; simp [slB]
 obtain ⟨v, _, e, K, vs, rfl, h⟩ := key
 exact ⟨v, K, vs, e, h⟩
end R
end Go.Abs
namespace Go.Abs
namespace R
set_option maxRecDepth 100000
theorem gxS_eq {s : List Int} {b : Nat} {x : Int} (h : b < s.length) : gx (s.set b x) b = x := by simp [gx, h]
theorem gxS_ne {s : List Int} {b k : Nat} {x : Int} (h : k ≠ b) : gx (s.set b x) k = gx s k := by simp [gx, List.getElem?_set_ne (Ne.symm h)]
theorem runP_spec {tog : Nat → Nat → Bool} {prev : List Int} {m : Nat} : ∀ (l : List (Nat × Nat)) (s : List Int), s.length = m → (∀ q ∈ l, q.1 < m ∧ q.2 < m) → ∀ k, k < m →
  gx (runP tog (fun _ _ _ => true) (potS prev) l s) k ≤ gx s k ∧
  (∀ q ∈ l, q.2 = k → tog q.1 k = true → gx (runP tog (fun _ _ _ => true) (potS prev) l s) k ≤ IntKind.wrap .i64 (gx prev q.1 + gapV q.1 k)) ∧
  (gx (runP tog (fun _ _ _ => true) (potS prev) l s) k = gx s k ∨ ∃ q ∈ l, q.2 = k ∧ tog q.1 k = true ∧ gx (runP tog (fun _ _ _ => true) (potS prev) l s) k = IntKind.wrap .i64 (gx prev q.1 + gapV q.1 k))
 | [], s, _, _, k, _ => ⟨by simp [runP], fun q hq => by simp at hq, .inl rfl⟩
 | (a, b) :: r, s, hs, hl, k, hk => by
  have hab := hl (a, b) (by simp)
  have hl' : ∀ q ∈ r, q.1 < m ∧ q.2 < m := fun q hq => hl q (by simp [hq])
  unfold runP
  rcases ht : tog a b with _ | _
  ·simp only [Bool.false_eq_true, if_false]
   obtain ⟨i1, i2, i3⟩ := runP_spec (tog := tog) (prev := prev) r s hs hl' k hk
   refine ⟨i1, fun q hq e t => ?_, ?_⟩
   ·rcases List.mem_cons.1 hq with rfl | hq
    ·simp only at e t; subst e; rw [ht] at t; cases t
    ·exact i2 q hq e t
   ·rcases i3 with i3 | ⟨q, hq, h1, h2, h3⟩
    ·exact .inl i3
    ·exact .inr ⟨q, by simp [hq], h1, h2, h3⟩
  ·simp only [if_true]
   have ls : (potS prev s a b).length = m := by simp [potS, hs]
   obtain ⟨i1, i2, i3⟩ := runP_spec (tog := tog) (prev := prev) r (potS prev s a b) ls hl' k hk
   by_cases e : k = b
   ·subst e
    have gs : gx (potS prev s a k) k = min (gx s k) (IntKind.wrap .i64 (gx prev a + gapV a k)) := by unfold potS; rw [gxS_eq (by omega)]
    rw [gs] at i1 i3
    refine ⟨by omega, fun q hq e t => ?_, ?_⟩
    ·rcases List.mem_cons.1 hq with rfl | hq
     ·simp only; omega
     ·exact i2 q hq e t
    ·rcases i3 with i3 | ⟨q, hq, h1, h2, h3⟩
     ·by_cases z : gx s k ≤ IntKind.wrap .i64 (gx prev a + gapV a k)
      ·exact .inl (by rw [i3]; omega)
      ·exact .inr ⟨(a, k), by simp, rfl, ht, by rw [i3]; simp only; omega⟩
     ·exact .inr ⟨q, by simp [hq], h1, h2, h3⟩
   ·have gs : gx (potS prev s a b) k = gx s k := by unfold potS; rw [gxS_ne e]
    rw [gs] at i1 i3
    refine ⟨i1, fun q hq e' t => ?_, ?_⟩
    ·rcases List.mem_cons.1 hq with rfl | hq
     ·simp only at e'; omega
     ·exact i2 q hq e' t
    ·rcases i3 with i3 | ⟨q, hq, h1, h2, h3⟩
     ·exact .inl i3
     ·exact .inr ⟨q, by simp [hq], h1, h2, h3⟩
theorem prs_mem {m : Nat} {q : Nat × Nat} : q ∈ prs m ↔ q.1 < m ∧ q.2 < m := by
 obtain ⟨a, b⟩ := q
 simp [prs]
def gp (a b : Nat) : Int := max ((a : Int) - b) ((b : Int) - a)
theorem gp_bd {a b m : Nat} (ha : a < m) (hb : b < m) : 0 ≤ gp a b ∧ gp a b < m := by unfold gp; omega
theorem gapV_gp {a b : Nat} (ha : a < 1000) (hb : b < 1000) : gapV a b = gp a b := by
 unfold gapV gp
 rw [wrap_eq (by omega) (by omega), wrap_eq (by omega) (by omega)]
section
variable {A : Nat → List Bool} {P : Nat → List XR} {jp : Int} {m n : Nat}
theorem ini_gx {R : List Bool} {i k : Nat} (h : k < R.length) : gx (iniR R i) k = if bx R k = true ∧ 0 < i then 1000000 else 0 := by simp [gx, iniR, bx, h]
theorem tog_A {i a b : Nat} (h : togB A P jp i a b = true) : bx (A i) a = true ∧ bx (A (i + 1)) b = true := by
 unfold togB at h; simp only [Bool.and_eq_true] at h; exact ⟨h.1.1, h.1.2⟩
theorem pot_bd (ha : ∀ i, i < n → (A i).length = m) (hm : m ≤ 1000) : ∀ i, i < n → ∀ k, k < m → 0 ≤ gx (potR A P jp m i) k ∧ gx (potR A P jp m i) k ≤ 1000000
 | 0, h, k, hk => by
  rw [potR, ini_gx (by rw [ha 0 h]; exact hk)]; simp
 | i + 1, h, k, hk => by
  have ih := pot_bd ha hm i (by omega)
  obtain ⟨i1, i2, i3⟩ := runP_spec (tog := togB A P jp i) (prev := potR A P jp m i) (prs m) (iniR (A (i + 1)) (i + 1)) (by rw [iniR_len, ha _ h]) (fun q hq => prs_mem.1 hq) k hk
  rw [potR]
  have g0 := ini_gx (R := A (i + 1)) (i := i + 1) (k := k) (by rw [ha _ h]; exact hk)
  have b0 : 0 ≤ gx (iniR (A (i + 1)) (i + 1)) k ∧ gx (iniR (A (i + 1)) (i + 1)) k ≤ 1000000 := by rw [g0]; split <;> omega
  refine ⟨?_, by omega⟩
  rcases i3 with e | ⟨q, hq, e1, e2, e3⟩
  ·rw [e]; exact b0.1
  ·have qm := prs_mem.1 hq
   have := ih q.1 qm.1
   have gb := gp_bd qm.1 (show k < m by omega)
   rw [e3, gapV_gp (by omega) (by omega), wrap_eq (by omega) (by omega)]
   omega
theorem pot_0 (ha : ∀ i, i < n → (A i).length = m) (h : 0 < n) {k : Nat} (hk : k < m) : gx (potR A P jp m 0) k = 0 := by
 rw [potR, ini_gx (by rw [ha 0 h]; exact hk)]; simp
theorem pot_next (ha : ∀ i, i < n → (A i).length = m) (hm : m ≤ 1000) {i k : Nat} (h : i + 1 < n) (hk : k < m) :
  (bx (A (i + 1)) k = true → ∀ a, a < m → togB A P jp i a k = true → gx (potR A P jp m (i + 1)) k ≤ gx (potR A P jp m i) a + gp a k) ∧
  (bx (A (i + 1)) k = true → gx (potR A P jp m (i + 1)) k = 1000000 ∨ ∃ a, a < m ∧ togB A P jp i a k = true ∧ gx (potR A P jp m (i + 1)) k = gx (potR A P jp m i) a + gp a k) := by
 have ih := pot_bd (P := P) (jp := jp) ha hm i (by omega)
 obtain ⟨i1, i2, i3⟩ := runP_spec (tog := togB A P jp i) (prev := potR A P jp m i) (prs m) (iniR (A (i + 1)) (i + 1)) (by rw [iniR_len, ha _ h]) (fun q hq => prs_mem.1 hq) k hk
 have g0 := ini_gx (R := A (i + 1)) (i := i + 1) (k := k) (by rw [ha _ h]; exact hk)
 have W : ∀ a, a < m → IntKind.wrap .i64 (gx (potR A P jp m i) a + gapV a k) = gx (potR A P jp m i) a + gp a k := fun a am => by
  have := ih a am
  have gb := gp_bd am hk
  rw [gapV_gp (by omega) (by omega), wrap_eq (by omega) (by omega)]
 refine ⟨fun hb a am t => ?_, fun hb => ?_⟩
 ·have := i2 (a, k) (prs_mem.2 ⟨am, hk⟩) rfl t
  rw [W a am] at this
  rw [potR]; exact this
 ·rw [potR]
  rcases i3 with e | ⟨q, hq, e1, e2, e3⟩
  ·left; rw [e, g0, if_pos ⟨hb, by omega⟩]
  ·right
   have qm := prs_mem.1 hq
   rw [W q.1 qm.1] at e3
   exact ⟨q.1, qm.1, e2, e3⟩
theorem lsI_spec {R : List Bool} {l : List Int} : ∀ k, (lsI R l k = -1 ∧ ∀ j, j < k → bx R j = true → ¬ gx l j < 1000000) ∨
  (∃ b : Nat, lsI R l k = b ∧ b < k ∧ bx R b = true ∧ gx l b < 1000000 ∧ ∀ j, j < k → bx R j = true → gx l b ≤ gx l j)
 | 0 => .inl ⟨rfl, fun j hj => by omega⟩
 | k + 1 => by
  have e : lsI R l (k + 1) = lsB R l k (lsI R l k) := rfl
  rw [e]
  rcases lsI_spec k with ⟨h1, h2⟩ | ⟨b, h1, h2, h3, h4, h5⟩
  ·rw [h1]
   by_cases z : bx R k = true ∧ gx l k < 1000000
   ·right
    refine ⟨k, by unfold lsB; rw [if_pos ⟨z.1, z.2, .inl (by omega)⟩], by omega, z.1, z.2, fun j hj hb => ?_⟩
    by_cases q : j = k
    ·subst q; omega
    ·have := h2 j (by omega) hb; omega
   ·left
    refine ⟨by unfold lsB; rw [if_neg (fun y => z ⟨y.1, y.2.1⟩)], fun j hj hb => ?_⟩
    by_cases q : j = k
    ·subst q; exact fun y => z ⟨hb, y⟩
    ·exact h2 j (by omega) hb
  ·rw [h1]
   right
   by_cases z : bx R k = true ∧ gx l k < 1000000 ∧ gx l k < gx l b
   ·refine ⟨k, by unfold lsB; rw [if_pos ⟨z.1, z.2.1, .inr (by simpa using z.2.2)⟩], by omega, z.1, z.2.1, fun j hj hb => ?_⟩
    by_cases q : j = k
    ·subst q; omega
    ·have := h5 j (by omega) hb; omega
   ·refine ⟨b, by unfold lsB; rw [if_neg (fun y => z ⟨y.1, y.2.1, y.2.2.elim (fun w => absurd w (by omega)) (fun w => by simpa using w)⟩)], by omega, h3, h4, fun j hj hb => ?_⟩
    by_cases q : j = k
    ·subst q
     by_cases y : gx l j < 1000000
     ·have : ¬ gx l j < gx l b := fun w => z ⟨hb, y, w⟩
      omega
     ·omega
    ·exact h5 j (by omega) hb
end
def cstS (prev : List Int) (tg : Nat → Nat → Bool) (g h : Nat) (y : Int) : Int := if 0 ≤ gx prev h ∧ tg h g = true then (if y < 0 ∨ gx prev h + gp g h < y then gx prev h + gp g h else y) else y
def cstH (prev : List Int) (tg : Nat → Nat → Bool) (g : Nat) : Nat → Int
 | 0 => -1
 | h + 1 => cstS prev tg g h (cstH prev tg g h)
def refRow (R : List Bool) (prev : List Int) (tg : Nat → Nat → Bool) (m i : Nat) : List Int := (List.range m).map fun g => if bx R g = true then (if i = 0 then 0 else cstH prev tg g m) else -1
def refC (A : Nat → List Bool) (tg : Nat → Nat → Nat → Bool) (m : Nat) : Nat → List Int
 | 0 => refRow (A 0) [] (fun _ _ => false) m 0
 | i + 1 => refRow (A (i + 1)) (refC A tg m i) (tg i) m (i + 1)
end R
end Go.Abs
namespace Go.Abs
namespace R
set_option maxRecDepth 100000
def fsN (p : Nat → Bool) (n i : Nat) : Nat := if i < n then (if p i = true then i else fsN p n (i + 1)) else n
termination_by n - i
theorem fsN_lt {p : Nat → Bool} {n i : Nat} (h : i < n) : fsN p n i = if p i = true then i else fsN p n (i + 1) := by rw [fsN, if_pos h]
theorem fsN_ge {p : Nat → Bool} {n i : Nat} (h : ¬ i < n) : fsN p n i = n := by rw [fsN, if_neg h]
theorem fsN_spec {p : Nat → Bool} {n : Nat} : ∀ (k i : Nat), n - i = k → i ≤ n → i ≤ fsN p n i ∧ fsN p n i ≤ n ∧ (fsN p n i < n → p (fsN p n i) = true) ∧ ∀ j, i ≤ j → j < fsN p n i → p j = false
 | 0, i, hk, hi => by rw [fsN_ge (by omega)]; exact ⟨hi, Nat.le_refl _, fun h => by omega, fun j h1 h2 => by omega⟩
 | k + 1, i, hk, hi => by
  rw [fsN_lt (by omega)]
  by_cases q : p i = true
  ·rw [if_pos q]; exact ⟨Nat.le_refl _, hi, fun _ => q, fun j h1 h2 => by omega⟩
  ·rw [if_neg q]
   obtain ⟨a, b, c, d⟩ := fsN_spec (p := p) (n := n) k (i + 1) (by omega) (by omega)
   refine ⟨by omega, b, c, fun j h1 h2 => ?_⟩
   by_cases z : j = i
   ·subst z; simpa using q
   ·exact d j (by omega) h2
def nxB (D D' : List Int) (tg : Nat → Nat → Bool) (b a : Nat) : Bool := tg a b && decide (IntKind.wrap .i64 (gx D a + gapV a b) = gx D' b)
def nxA (D D' : List Int) (tg : Nat → Nat → Bool) (m b : Nat) : Nat := if fsN (nxB D D' tg b) m 0 < m then fsN (nxB D D' tg b) m 0 else 0
section
variable {A : Nat → List Bool} {P : Nat → List XR} {jp : Int} {m n : Nat}
def badR (A : Nat → List Bool) (P : Nat → List XR) (jp : Int) (m i : Nat) : Bool := decide (lsI (A i) (potR A P jp m i) m < 0)
def pq (A : Nat → List Bool) (P : Nat → List XR) (jp : Int) (m n : Nat) : Nat → Nat
 | 0 => (lsI (A (n - 1)) (potR A P jp m (n - 1)) m).toNat
 | j + 1 => nxA (potR A P jp m (n - 2 - j)) (potR A P jp m (n - 1 - j)) (togB A P jp (n - 2 - j)) m (pq A P jp m n j)
def pg (A : Nat → List Bool) (P : Nat → List XR) (jp : Int) (m n i : Nat) : Nat := pq A P jp m n (n - 1 - i)
theorem pq_ok (ha : ∀ i, i < n → (A i).length = m) (hm : m ≤ 1000) (hb : badR A P jp m (n - 1) = false) : ∀ j, j < n → pq A P jp m n j < m ∧ bx (A (n - 1 - j)) (pq A P jp m n j) = true ∧ gx (potR A P jp m (n - 1 - j)) (pq A P jp m n j) < 1000000 ∧
  (∀ j', j = j' + 1 → togB A P jp (n - 1 - j) (pq A P jp m n j) (pq A P jp m n j') = true ∧ gx (potR A P jp m (n - 1 - j)) (pq A P jp m n j) + gp (pq A P jp m n j) (pq A P jp m n j') = gx (potR A P jp m (n - 1 - j')) (pq A P jp m n j'))
 | 0, h => by
  have hb := of_decide_eq_false hb
  rcases lsI_spec (R := A (n - 1)) (l := potR A P jp m (n - 1)) m with ⟨h1, _⟩ | ⟨b, h1, h2, h3, h4, h5⟩
  ·omega
  ·have e : pq A P jp m n 0 = b := by unfold pq; rw [h1]; rfl
   rw [e, Nat.sub_zero]
   exact ⟨h2, h3, h4, fun j' z => by omega⟩
 | j + 1, h => by
  obtain ⟨i1, i2, i3, _⟩ := pq_ok ha hm hb j (by omega)
  have e : pq A P jp m n (j + 1) = nxA (potR A P jp m (n - 2 - j)) (potR A P jp m (n - 1 - j)) (togB A P jp (n - 2 - j)) m (pq A P jp m n j) := rfl
  generalize hb9 : pq A P jp m n j = b at *
  obtain ⟨i, hi⟩ : ∃ i, i = n - 2 - j := ⟨_, rfl⟩
  have h1 : n - 1 - j = i + 1 := by omega
  have h2 : n - 1 - (j + 1) = i := by omega
  rw [h1] at i2 i3 e
  rw [← hi] at e
  rw [h2]
  obtain ⟨_, p2⟩ := pot_next (P := P) (jp := jp) ha hm (i := i) (k := b) (by omega) i1
  have bd := pot_bd (P := P) (jp := jp) ha hm i (by omega)
  have W : ∀ a, a < m → IntKind.wrap .i64 (gx (potR A P jp m i) a + gapV a b) = gx (potR A P jp m i) a + gp a b := fun a am => by
   have := bd a am
   have gb := gp_bd am i1
   rw [gapV_gp (by omega) (by omega), wrap_eq (by omega) (by omega)]
  obtain ⟨s1, s2, s3, s4⟩ := fsN_spec (p := nxB (potR A P jp m i) (potR A P jp m (i + 1)) (togB A P jp i) b) (n := m) m 0 rfl (Nat.zero_le _)
  have lt : fsN (nxB (potR A P jp m i) (potR A P jp m (i + 1)) (togB A P jp i) b) m 0 < m := by
   rcases p2 i2 with q | ⟨a, am, t, q⟩
   ·omega
   ·rcases Nat.lt_or_ge (fsN (nxB (potR A P jp m i) (potR A P jp m (i + 1)) (togB A P jp i) b) m 0) m with z | z
    ·exact z
    ·have := s4 a (Nat.zero_le _) (by omega)
     unfold nxB at this
     rw [t, W a am, q] at this
     simp at this
  have pa := s3 lt
  unfold nxA at e
  rw [if_pos lt] at e
  rw [e]
  generalize fsN (nxB (potR A P jp m i) (potR A P jp m (i + 1)) (togB A P jp i) b) m 0 = a at *
  unfold nxB at pa
  rw [W a lt] at pa
  simp only [Bool.and_eq_true, decide_eq_true_eq] at pa
  refine ⟨lt, (tog_A pa.1).1, ?_, fun j' z => ?_⟩
  ·have := gp_bd lt i1; omega
  ·obtain rfl : j' = j := by omega
   rw [h1, hb9]
   exact ⟨pa.1, pa.2⟩
end
structure PrvP (A : Nat → List Bool) (tg : Nat → Nat → Nat → Bool) (m n : Nat) (p : Nat → List Int) (bound : Int) : Prop where
 z : ∀ k, 0 < n → k < m → bx (A 0) k = true → gx (p 0) k ≤ 0
 l : ∀ k, 0 < n → k < m → bx (A (n - 1)) k = true → bound ≤ gx (p (n - 1)) k
 s : ∀ i a b, i + 1 < n → a < m → b < m → tg i a b = true → gx (p (i + 1)) b ≤ gx (p i) a + gp a b
end R
end Go.Abs
namespace Go.Abs
namespace R
set_option maxRecDepth 100000
set_option maxHeartbeats 0
end R
end Go.Abs
