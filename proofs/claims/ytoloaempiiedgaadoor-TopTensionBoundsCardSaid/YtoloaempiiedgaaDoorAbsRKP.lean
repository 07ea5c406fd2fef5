--
import Derived.Test.YtoloaempiiedgaaDoorAbsRKN
import Derived.Test.YtoloaempiiedgaaDoorAbsRKO
set_option linter.unusedSimpArgs false
set_option linter.unusedVariables false
namespace Go.Abs
namespace R
set_option maxRecDepth 100000
set_option maxHeartbeats 0
section
variable {A : Nat → List Bool} {P : Nat → List XR} {jp : Int} {m n : Nat}
theorem pg_last : pg A P jp m (n + 1) n = (lsI (A n) (potR A P jp m n) m).toNat := by
 unfold pg
 rw [show n + 1 - 1 - n = 0 by omega]; rfl
theorem pg_step {j : Nat} (h : j < n) : pg A P jp m (n + 1) j = nxA (potR A P jp m j) (potR A P jp m (j + 1)) (togB A P jp j) m (pg A P jp m (n + 1) (j + 1)) := by
 unfold pg
 obtain ⟨r, hr⟩ : ∃ r, n + 1 - 1 - j = r + 1 := ⟨n - 1 - j, by omega⟩
 rw [hr, show n + 1 - 1 - (j + 1) = r by omega, pq, show n + 1 - 2 - r = j by omega, show n + 1 - 1 - r = j + 1 by omega]
theorem pg_ok (ha : ∀ i, i < n + 1 → (A i).length = m) (hm : m ≤ 1000) (hb : badR A P jp m n = false) {j : Nat} (h : j < n + 1) : pg A P jp m (n + 1) j < m :=
 (pq_ok (P := P) (jp := jp) ha hm (by rwa [Nat.add_sub_cancel]) (n + 1 - 1 - j) (by omega)).1
def glS (A : Nat → List Bool) (P : Nat → List XR) (jp : Int) (m n k : Nat) : List Int := (List.range n).map fun j => if k ≤ j then (pg A P jp m n j : Int) else 0
theorem glS_len {k : Nat} : (glS A P jp m n k).length = n := by simp [glS]
theorem glS_gx {k j : Nat} (h : j < n) : gx (glS A P jp m n k) j = if k ≤ j then (pg A P jp m n j : Int) else 0 := by simp [glS, gx, h]
theorem glS_set {j : Nat} (h : j < n) : (glS A P jp m n (j + 1)).set j (pg A P jp m n j : Int) = glS A P jp m n j := by
 apply List.ext_getElem?
 intro q
 by_cases e : q = j
 ·subst e; rw [List.getElem?_set_self (by rw [glS_len]; exact h)]; simp [glS, h]
 ·rw [List.getElem?_set_ne (Ne.symm e)]
  by_cases l : q < n
  ·simp only [glS, List.getElem?_map, List.getElem?_range l, Option.map]
   by_cases z : j ≤ q
   ·rw [if_pos (by omega), if_pos z]
   ·rw [if_neg (by omega), if_neg z]
  ·simp [glS, l]
theorem glS_n : glS A P jp m n n = List.replicate n 0 := by
 apply List.ext_getElem?
 intro q
 by_cases l : q < n
 ·simp only [glS, List.getElem?_map, List.getElem?_range l, Option.map, List.getElem?_replicate, if_pos l]
  rw [if_neg (by omega)]
 ·simp [glS, l]
theorem glS_0 {j : Nat} (h : j < n) (z : pg A P jp m n j = 0) : glS A P jp m n (j + 1) = glS A P jp m n j := by
 apply List.ext_getElem?
 intro q
 by_cases l : q < n
 ·simp only [glS, List.getElem?_map, List.getElem?_range l, Option.map]
  by_cases e : q = j
  ·subst e; rw [if_neg (by omega), if_pos (Nat.le_refl _), z]; rfl
  ·by_cases z2 : j ≤ q
   ·rw [if_pos (by omega), if_pos z2]
   ·rw [if_neg (by omega), if_neg z2]
 ·simp [glS, l]
end
theorem slKeep {es : Nat} {H : Heap} {L M : List (Option Blk)} {c0 : Nat} {x : Option Blk} {v : Value} {n : Nat} {cs : List Value} (s : Sl es (H ++ L) v n cs) (h : n ≠ 0 → H.length + c0 < slB v) : Sl es (H ++ (L.set c0 x ++ M)) v n cs := by
 refine ⟨s.len, s.size, s.addr, ?_, fun k hk => ?_⟩
 ·rcases s.low with e | ⟨b, o, m, t, e, hb⟩
  ·exact .inl e
  ·exact .inr ⟨b, o, m, t, e, by simp only [List.length_append, List.length_set] at hb ⊢; omega⟩
 ·have hn : n ≠ 0 := fun e => by subst e; simp at hk
  have h1 := h hn
  have h2 := s.lt hn
  rw [← s.cell k hk]
  obtain ⟨c, hc⟩ : ∃ c, slB v = H.length + c := ⟨slB v - H.length, by omega⟩
  rw [List.length_append] at h2
  unfold Heap.cell
  rw [hc, hget_base rfl, hget_base rfl, lget_left (by rw [List.length_set]; omega), List.getElem?_set_ne (by omega)]
def choS (A : Nat → List Bool) (P : Nat → List XR) (jp : Int) (m n : Nat) (e : Int) (h : Heap) (ga po : Value) (c e' : Int) : Prop :=
 if e ≠ 0 ∨ n = 0 then ga = .slice none 0 0 ∧ po = .slice none 0 0 ∧ c = 0 ∧ e' = e
 else if fsN (badR A P jp m) n 0 < n then ga = .slice none 0 0 ∧ po = .slice none 0 0 ∧ c = (fsN (badR A P jp m) n 0 : Int) ∧ e' = 12
 else SlI' h ga (glS A P jp m n 0) ∧ (∃ vs, NL h po n vs (potR A P jp m)) ∧ c = gx (potR A P jp m (n - 1)) (pg A P jp m n (n - 1)) ∧ e' = 0
theorem c9 {d lim : Nat} {H : Heap} {v w gv : Value} {wl : List Wi} {l : List Un} {t : Int} {X : Lm} {G : List Int} (sp : Pr H) (s : SlW H v wl) (q : SlN H w l) (p : SlI' H gv G) (hwl : wl.length ≤ 1000) (hnm : Nms wl) (hlim : lim ≤ H.length) :
  ∃ ga po c e' K, E.call (d + 10) lim 9 [stV t v w, lmV X, gv] H = some (.tuple #[.agg #[ga, po], i64 c, i64 e'], H ++ K) ∧
   choS (fun i => alR wl t (atN l i) X G) (fun i => plR wl t (atN l i) G) X.jp G.length l.length (erA t wl l X G) (H ++ K) ga po c e' := by
 have key : ∃ r h', E.call (d + 10) lim 9 [stV t v w, lmV X, gv] H = some (r, h') ∧ ∃ ga po c e' K, r = .tuple #[.agg #[ga, po], i64 c, i64 e'] ∧ h' = H ++ K ∧
   choS (fun i => alR wl t (atN l i) X G) (fun i => plR wl t (atN l i) G) X.jp G.length l.length (erA t wl l X G) (H ++ K) ga po c e' := by
  have hp : ∀ b, Heap.push H b = H ++ [some b] := fun _ => rfl
  obtain ⟨M3, hM3⟩ : ∃ M3 : List (Option Blk), M3 = [some ⟨[i64 t, v, w], true⟩, some ⟨[i64 X.lo, i64 X.hi, i64 X.sh, i64 X.jp], true⟩, some ⟨[.slice none 0 0, .slice none 0 0], true⟩] := ⟨_, rfl⟩
  obtain ⟨pv, K1, e62, p1, p2⟩ := c35 (d := d) (lim := lim) (t := t) (X := X) (sp.app M3) (s.app M3) (q.app M3) (p.app M3) hwl hnm (by rw [List.length_append]; omega)
  have rq := (q.app (M3 ++ K1)).rules2
  obtain ⟨A, hA⟩ : ∃ A : Nat → List Bool, A = fun i => alR wl t (atN l i) X G := ⟨_, rfl⟩
  obtain ⟨Pl, hPl⟩ : ∃ Pl : Nat → List XR, Pl = fun i => plR wl t (atN l i) G := ⟨_, rfl⟩
  simp only [← hA, ← hPl] at p2 ⊢
  obtain ⟨er, her⟩ : ∃ er, er = erA t wl l X G := ⟨_, rfl⟩
  rw [← her] at e62 p1 p2 ⊢
  refine full_ex fn9 rfl (by simp [ef9]) ?_
  rw [hM3] at e62
  simp only [List.append_assoc] at e62 rq
  by_cases q1 : er = 0
  ·obtain ⟨b, rfl, g⟩ := p2 q1
   subst q1
   by_cases q2 : l.length = 0
   ·simp [ef9, hp, e62, rq, q2, show noAddr (Value.slice none 0 0) = true from rfl]
    exact ⟨_, _, _, _, ⟨⟨rfl, rfl⟩, rfl, rfl⟩, by unfold choS; rw [if_pos (.inr rfl)]; exact ⟨rfl, rfl, rfl, rfl⟩⟩
   ·have O := StOk.of (erA_parts her.symm).1
    have n90 := O.few
    have g20 := (ggE_0 (erA_parts her.symm).2.2).2
    obtain ⟨n, hn⟩ : ∃ n, l.length = n + 1 := ⟨l.length - 1, by omega⟩
    obtain ⟨m, hm⟩ : ∃ m, m = G.length := ⟨_, rfl⟩
    have ha : ∀ i, (A i).length = m := fun i => by rw [hA, alR_len, hm]
    have hpl : ∀ i, (Pl i).length = m := fun i => by rw [hPl, plR_len, hm]
    rw [hn] at g rq n90 ⊢
    rw [← hm] at g20 ⊢
    obtain ⟨po, K2, vs, e76, nl, rb, ob⟩ := c36 (d := d + 5) (lim := lim) g (by omega) (fun i _ => ha i) (fun i _ => hpl i) (by omega) (by simp only [List.length_append]; omega)
    obtain ⟨B, hB⟩ : ∃ B : Heap, B = H ++ M3 ++ K1 ++ K2 := ⟨_, rfl⟩
    have gB : GD B b (n + 1) A Pl X.jp := hB ▸ g.app K2
    rw [← hB] at nl e76
    obtain ⟨L, hL⟩ : ∃ L, L = M3 ++ K1 ++ K2 := ⟨_, rfl⟩
    have hBL : B = H ++ L := by rw [hB, hL]; simp
    have e2 : L[2]? = some (some ⟨[.slice none 0 0, .slice none 0 0], true⟩) := by rw [hL, hM3]; rfl
    have l2 := lget_lt e2
    have BL : B.length = H.length + L.length := by rw [hBL, List.length_append]
    have PB : ∀ M x, Heap.put (B ++ M) (H.length + 2) x = H ++ (L.set 2 x ++ M) := fun M x => by
     rw [hBL, List.append_assoc, hput_base rfl, List.set_append_left _ _ l2]
    have PB0 : ∀ x, Heap.put B (H.length + 2) x = H ++ L.set 2 x := fun x => by rw [hBL, hput_base rfl]
    have e3 : B.get (H.length + 2) = some ⟨[.slice none 0 0, .slice none 0 0], true⟩ := by rw [hBL, hget_base rfl, e2]; rfl
    have s2 : ∀ x, (L.set 2 x)[2]? = some x := fun x => List.getElem?_set_self l2
    have s2' : ∀ x hh, (L.set 2 x)[2]'hh = x := fun x hh => lgetE (s2 x) hh
    have ro := nl.sl.rules2
    have hpo := nl.sl.addr (by omega)
    have pc : po.cells = #[po] := by rw [hpo]; rfl
    have lc := pc
    simp only [Value.cells] at lc
    have po1 : Value.oneCell' po = true := by rw [hpo]; rfl
    simp only [Value.oneCell'] at po1
    have glB : ∀ k, lim ≤ B.length + k := fun k => by omega
    have g1 : 8 * ((n : Int) + 1) ≤ 140737488355328 := by omega
    have g2 : (n : Int) + 1 ≤ 9223372036854775807 := by omega
    have g0 : (0 : Int) ≤ (n : Int) + 1 := by omega
    have z1 : zeros [i64 0] (n + 1) = cI (glS A Pl X.jp m (n + 1) (n + 1)) := by rw [glS_n]; simp [zeros, cI]
    have hpB : ∀ b, Heap.push B b = B ++ [some b] := fun _ => rfl
    have nn : noAddr (Value.slice none 0 0) = true := rfl
    have k77 := fun (M : Heap) lim i hi => c37 (d := d + 8) (lim := lim) (i := i) (gB.app M) ((nl.row i hi).app M) hi (by rw [ha, potR_len (n := n + 1) (fun i _ => ha i) i hi]) (by rw [potR_len (n := n + 1) (fun i _ => ha i) i hi]; omega)
    have k77f := fun (M : Heap) lim i hi => c37 (d := d + 8) (lim := lim) (i := i) (gB.app M).frz (Sl_freeze.2 ((nl.row i hi).app M)) hi (by rw [ha, potR_len (n := n + 1) (fun i _ => ha i) i hi]) (by rw [potR_len (n := n + 1) (fun i _ => ha i) i hi]; omega)
    have wn : IntKind.wrap .i64 (n : Int) = n := wrap_eq (by omega) (by omega)
    have na : ∀ z, noAddr (i64 z) = true := fun z => rfl
    have pl : ∀ i, i < n + 1 → (potR A Pl X.jp m i).length = m := fun i hi => potR_len (n := n + 1) (fun i _ => ha i) i hi
    rw [hM3] at e76
    simp only [List.append_assoc, List.cons_append, List.nil_append] at e76
    generalize hR0 : fsN (badR A Pl X.jp m) (n + 1) 0 = R
    simp [ef9, hp, e62, rq, e76, ro]
    refine wpC_loop (fun y st => ∃ i : Nat, y = n + 1 - i ∧ i ≤ n + 1 ∧ fsN (badR A Pl X.jp m) (n + 1) i = R ∧ st = ⟨[(6, pB (H.length + 2)), (9, pB b), (11, po), (39, po), (40, i64 ((n : Int) + 1)), (41, i64 (i : Int))], B⟩) (n + 1) (by show n + 1 < 2 ^ 64; omega) ?_ ?_
    ·simp [St.tidy, ro]
     exact ⟨0, by omega, by omega, hR0, rfl⟩
    ·rintro y hy _ ⟨i, rfl, hi, hR, rfl⟩
     by_cases lt : i < n + 1
     ·have lti : (i : Int) < (n : Int) + 1 := by omega
      have w1' := w1 (i := i) (by omega)
      simp only [W] at w1'
      have a1 := as_get vs lt
      have k77i := fun lim => k77 [] lim i lt
      rw [List.append_nil, pl i lt] at k77i
      rw [fsN_lt lt] at hR
      by_cases bad : lsI (A i) (potR A Pl X.jp m i) m < 0
      ·have bd : badR A Pl X.jp m i = true := decide_eq_true bad
       rw [if_pos bd] at hR
       subst hR
       simp [lt, lti, Nat.not_le.2 lt, ro, a1, k77i, bad, PB0, e3, s2, s2', l2, nn]
       exact ⟨_, _, _, _, ⟨⟨rfl, rfl⟩, rfl, rfl⟩, by unfold choS; rw [if_neg (by simp), if_pos (by rw [hR0]; exact lt), hR0]; exact ⟨rfl, rfl, rfl, rfl⟩⟩
      ·have bd : badR A Pl X.jp m i = false := decide_eq_false bad
       rw [if_neg (by rw [bd]; decide)] at hR
       simp [lt, lti, Nat.not_le.2 lt, ro, a1, k77i, bad, Int.not_lt.1 bad, w1', St.tidy]
       exact ⟨n + 1 - (i + 1), by omega, i + 1, rfl, by omega, hR, rfl⟩
     ·obtain rfl : i = n + 1 := by omega
      rw [fsN_ge (by omega)] at hR
      subst hR
      have nb : ∀ j, j < n + 1 → badR A Pl X.jp m j = false := fun j hj => by
       have := (fsN_spec (p := badR A Pl X.jp m) (n := n + 1) (n + 1) 0 rfl (Nat.zero_le _)).2.2.2 j (Nat.zero_le _)
       rw [hR0] at this
       exact this hj
      have nbn := of_decide_eq_false (nb n (by omega))
      have lsn : lsI (A n) (potR A Pl X.jp m n) m = (pg A Pl X.jp m (n + 1) n : Int) := by rw [pg_last]; omega
      have pgm : ∀ j, j < n + 1 → pg A Pl X.jp m (n + 1) j < m := fun j hj => pg_ok (fun i _ => ha i) (by omega) (nb n (by omega)) hj
      have k77n := fun (M : Heap) lim => k77f M lim n (by omega)
      simp only [pl n (by omega), lsn] at k77n
      have an := as_get vs (show n < n + 1 by omega)
      have fs := glS_set (A := A) (P := Pl) (jp := X.jp) (m := m) (show n < n + 1 by omega)
      have w2 : IntKind.wrap .i64 ((n : Int) - 1) = (n : Int) - 1 := wrap_eq (by omega) (by omega)
      have gln : (glS A Pl X.jp m (n + 1) (n + 1)).length = n + 1 := glS_len
      simp [ro, wn, g0, g1, g2, z1, maxLen, lc, hpB, po1, glB, nn, an, k77n, lget_right, lget_right0, lset_right, lset_right0, cI_set, fs, na, gln, w2, show (n : Int) < (n : Int) + 1 by omega]
      refine wpC_loop (fun y st => ∃ k : Nat, y = k ∧ k ≤ n ∧ st = ⟨[(6, pB (H.length + 2)), (9, pB b), (11, po), (14, i64 (n : Int)), (15, pB (B.length + 1)), (16, i64 ((k : Int) - 1))], B ++ [some ⟨cI (glS A Pl X.jp m (n + 1) k), true⟩, some ⟨[.slice (some ⟨B.length, 0, none⟩) (n + 1) 1, po], true⟩]⟩) n (by show n < 2 ^ 64; omega) ?_ ?_
      ·simp [St.tidy]
      ·rintro k hy _ ⟨_, rfl, hk, rfl⟩
       rcases k with _ | j
       ·have rn := (nl.row n (by omega)).rules2
        rw [pl n (by omega)] at rn
        have gn : gx (glS A Pl X.jp m (n + 1) 0) n = (pg A Pl X.jp m (n + 1) n : Int) := by rw [glS_gx (by omega), if_pos (by omega)]
        have cg := cI_gx (x := glS A Pl X.jp m (n + 1) 0) (v := n) (by rw [glS_len]; omega)
        have qg := cI_gxe (l := glS A Pl X.jp m (n + 1) 0) (k := n) (by rw [glS_len]; omega)
        rw [gn] at cg qg
        have gl0 : (glS A Pl X.jp m (n + 1) 0).length = n + 1 := glS_len
        have zm := pgm n (by omega)
        have cp := cI_gx (x := potR A Pl X.jp m n) (v := pg A Pl X.jp m (n + 1) n) (by rw [pl n (by omega)]; exact zm)
        have qp := cI_gxe (l := potR A Pl X.jp m n) (k := pg A Pl X.jp m (n + 1) n) (by rw [pl n (by omega)]; exact zm)
        have rbn := rb n (by omega)
        have obn := ob (by omega)
        have M3l : M3.length = 3 := by rw [hM3]; rfl
        simp only [List.length_append, M3l] at rbn obn
        have n1 : ¬ H.length + 2 = slB (vs n) := by omega
        have n2 : ¬ H.length + 2 = slB po := by omega
        have n3 : ¬ H.length + 2 = B.length := by omega
        have n4 : ¬ H.length + 1 = B.length := by omega
        have s3 : ∀ x M, (L.set 2 x ++ M)[2]? = some x := fun x M => by rw [lget_left (by rw [List.length_set]; exact l2), s2]
        have glH : lim ≤ H.length + 2 := by omega
        have zmi : (pg A Pl X.jp m (n + 1) n : Int) < m := by omega
        generalize hz : pg A Pl X.jp m (n + 1) n = z at *
        simp [ro, an, rn, lget_right, lget_right0, gl0, cg, qg, cp, qp, n1, n2, n3, n4, s3, glH, zm, zmi, hget_append e3, PB, KOp_eq, Log.clash, po1, lc, show (n : Int) < (n : Int) + 1 by omega]
        refine ⟨_, _, _, _, ⟨⟨rfl, rfl⟩, rfl, rfl⟩, ?_⟩
        unfold choS
        rw [if_neg (by simp), if_neg (by omega)]
        refine ⟨?_, ⟨vs, ?_⟩, by rw [Nat.add_sub_cancel, hz], rfl⟩
        ·have := Sl_one1 (h := H ++ (L.set 2 (some ⟨[.slice (some ⟨B.length, 0, none⟩) (n + 1) 1, po], true⟩) ++ [some ⟨cI (glS A Pl X.jp m (n + 1) 0), true⟩, some ⟨[.slice (some ⟨B.length, 0, none⟩) (n + 1) 1, po], true⟩])) (b := B.length) (n := n + 1) (cs := cI (glS A Pl X.jp m (n + 1) 0)) (rw := true) (by rw [BL, hget_base rfl, lget_right0 (by simp)]; rfl) (by simp [gl0])
         have e := gl0
         unfold SlI'
         rw [e]
         exact this
        ·rw [hBL] at nl
         refine ⟨slKeep nl.sl fun _ => by omega, fun i hi => slKeep (nl.row i hi) fun _ => ?_⟩
         have := rb i hi
         simp only [List.length_append, M3l] at this
         omega
       ·have jn : j < n + 1 := by omega
        have jn1 : j + 1 < n + 1 := by omega
        have jni : (j : Int) < (n : Int) + 1 := by omega
        have jni1 : (j : Int) + 1 < (n : Int) + 1 := by omega
        have aj := as_get vs jn
        have ak := as_get vs jn1
        have r3 := (nl.row j jn).rules2
        have r4 := (nl.row (j + 1) jn1).rules2
        rw [pl j jn] at r3
        rw [pl (j + 1) jn1] at r4
        have wj := w1 (i := j) (by omega)
        simp only [W] at wj
        have zm := pgm (j + 1) jn1
        have ps := pg_step (A := A) (P := Pl) (jp := X.jp) (m := m) (show j < n by omega)
        have gj : gx (glS A Pl X.jp m (n + 1) (j + 1)) (j + 1) = (pg A Pl X.jp m (n + 1) (j + 1) : Int) := by rw [glS_gx jn1, if_pos (Nat.le_refl _)]
        have cg := cI_gx (x := glS A Pl X.jp m (n + 1) (j + 1)) (v := j + 1) (by rw [glS_len]; exact jn1)
        have qg := cI_gxe (l := glS A Pl X.jp m (n + 1) (j + 1)) (k := j + 1) (by rw [glS_len]; exact jn1)
        rw [gj] at cg qg
        have glj : (glS A Pl X.jp m (n + 1) (j + 1)).length = n + 1 := glS_len
        have fsj := glS_set (A := A) (P := Pl) (jp := X.jp) (m := m) jn
        have fs0 := glS_0 (A := A) (P := Pl) (jp := X.jp) (m := m) jn
        generalize pg A Pl X.jp m (n + 1) (j + 1) = z at *
        unfold nxA at ps
        generalize hQ : fsN (nxB (potR A Pl X.jp m j) (potR A Pl X.jp m (j + 1)) (togB A Pl X.jp j) z) m 0 = Q at *
        simp [lget_right, lget_right0, glj, cg, qg, wj, jn, jni, jn1, jni1, ro, aj, ak, r3, r4]
        refine ⟨by omega, ?_⟩
        refine wpC_loop (fun y st => ∃ a : Nat, y = m - a ∧ a ≤ m ∧ fsN (nxB (potR A Pl X.jp m j) (potR A Pl X.jp m (j + 1)) (togB A Pl X.jp j) z) m a = Q ∧ st = ⟨[(6, pB (H.length + 2)), (9, pB b), (11, po), (14, i64 (n : Int)), (15, pB (B.length + 1)), (16, i64 (j : Int)), (17, i64 (z : Int)), (88, vs j), (89, i64 (m : Int)), (90, i64 (a : Int))], B ++ [some ⟨cI (glS A Pl X.jp m (n + 1) (j + 1)), true⟩, some ⟨[.slice (some ⟨B.length, 0, none⟩) (n + 1) 1, po], true⟩]⟩) m (by show m < 2 ^ 64; omega) ?_ ?_
        ·simp [St.tidy]
         exact ⟨0, by omega, by omega, hQ, rfl⟩
        ·rintro y hy _ ⟨a, rfl, hi, hQ2, rfl⟩
         have jz : (0 : Int) ≤ (j : Int) + 1 := by omega
         have tj : IntKind.wrap .i64 ((j : Int) - 1) = (j : Int) - 1 := wrap_eq (by omega) (by omega)
         by_cases lta : a < m
         ·have ltai : (a : Int) < m := by omega
          have zmi : (z : Int) < m := by omega
          have wa := w1 (i := a) (by omega)
          simp only [W] at wa
          have cp := cI_gx (x := potR A Pl X.jp m j) (v := a) (by rw [pl j jn]; exact lta)
          have qp := cI_gxe (l := potR A Pl X.jp m j) (k := a) (by rw [pl j jn]; exact lta)
          have cp1 := cI_gx (x := potR A Pl X.jp m (j + 1)) (v := z) (by rw [pl (j + 1) jn1]; exact zm)
          have qp1 := cI_gxe (l := potR A Pl X.jp m (j + 1)) (k := z) (by rw [pl (j + 1) jn1]; exact zm)
          have k78 := fun (M : Heap) lim => c38 (d := d + 7) (lim := lim) (i := j) (x := a) (y := z) (gB.app M) (by omega) (by omega) (fun i _ => ha i) (fun i _ => hpl i) lta zm
          have k78f := fun (M : Heap) lim => c38 (d := d + 7) (lim := lim) (i := j) (x := a) (y := z) (gB.app M).frz (by omega) (by omega) (fun i _ => ha i) (fun i _ => hpl i) lta zm
          have k79 := fun lim hh a b => c39 (d := d + 8) (lim := lim) (h := hh) (a := a) (b := b)
          rw [fsN_lt lta] at hQ2
          have nxe : nxB (potR A Pl X.jp m j) (potR A Pl X.jp m (j + 1)) (togB A Pl X.jp j) z a = (togB A Pl X.jp j a z && decide (IntKind.wrap .i64 (gx (potR A Pl X.jp m j) a + gapV a z) = gx (potR A Pl X.jp m (j + 1)) z)) := rfl
          rcases ht : togB A Pl X.jp j a z with _ | _
          ·rw [ht] at k78 k78f nxe
           rw [if_neg (by rw [nxe]; simp)] at hQ2
           simp [lta, ltai, Nat.not_le.2 lta, r3, cp, qp, k78, k78f, wa, St.tidy]
           exact ⟨m - (a + 1), by omega, a + 1, rfl, by omega, hQ2, rfl⟩
          ·rw [ht] at k78 k78f nxe
           by_cases hw : IntKind.wrap .i64 (gx (potR A Pl X.jp m j) a + gapV a z) = gx (potR A Pl X.jp m (j + 1)) z
           ·rw [if_pos (by rw [nxe]; simpa using hw)] at hQ2
            subst hQ2
            rw [if_pos lta] at ps
            rw [ps] at fsj
            simp [lta, ltai, Nat.not_le.2 lta, r3, r4, ro, aj, ak, wj, jn, jni, jn1, jni1, jz, zm, zmi, cp, qp, cp1, qp1, k78, k78f, k79, hw, wa, lget_right, lget_right0, lset_right, lset_right0, cI_set, glj, na, glB, fsj, tj, KOp_eq, Log.clash, St.tidy]
            exact ⟨by omega, j, by omega, by omega, rfl, rfl⟩
           ·rw [if_neg (by rw [nxe]; simpa using hw)] at hQ2
            simp [lta, ltai, Nat.not_le.2 lta, r3, r4, ro, aj, ak, wj, jn, jni, jn1, jni1, jz, zm, zmi, cp, qp, cp1, qp1, k78, k78f, k79, hw, wa, KOp_eq, Log.clash, St.tidy]
            exact ⟨m - (a + 1), by omega, a + 1, rfl, by omega, hQ2, rfl⟩
         ·obtain rfl : a = m := by omega
          rw [fsN_ge (by omega)] at hQ2
          subst hQ2
          rw [if_neg (by omega)] at ps
          rw [fs0 ps]
          simp [tj, St.tidy]
          exact ⟨j, by omega, by omega, rfl, rfl⟩
  ·simp [ef9, hp, e62, q1, show noAddr (Value.slice none 0 0) = true from rfl]
   exact ⟨_, _, _, _, ⟨⟨rfl, rfl⟩, rfl, rfl⟩, by unfold choS; rw [if_pos (.inl q1)]; exact ⟨rfl, rfl, rfl, rfl⟩⟩
 obtain ⟨_, _, e, ga, po, c, e', K, rfl, rfl, h⟩ := key
 exact ⟨ga, po, c, e', K, e, h⟩
end R
end Go.Abs
