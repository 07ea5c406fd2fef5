/- Enclose: the reference's; the law NumberEncloses. -/
import Derived.Test.YtjalhpdmdiimoaaDoorAbsNB19
set_option linter.unusedSimpArgs false
set_option linter.unusedVariables false
namespace Go.Abs
namespace N
set_option maxRecDepth 100000
set_option maxHeartbeats 0
theorem SlW_nil {h : Heap} : SlW h (.slice none 0 0) (dgs 0) := ⟨rfl, rfl, fun z => absurd rfl z, .inl rfl, fun k hk => by simp [dgs_zero] at hk⟩
theorem pow_bd {X L m K : Nat} (hX : X < 10000 ^ L) (hm : m ≤ K) : X ^ m < 10000 ^ (L * K + 1) := by
  have h1 : X ^ m ≤ (10000 ^ L) ^ m := Nat.pow_le_pow_left (by omega) m
  rw [← Nat.pow_mul] at h1
  have h2 : 10000 ^ (L * m) ≤ 10000 ^ (L * K) := Nat.pow_le_pow_right (by decide) (Nat.mul_le_mul_left _ hm)
  have h3 : 10000 ^ (L * K) < 10000 ^ (L * K + 1) := Nat.pow_lt_pow_right (by decide) (by omega)
  omega
theorem mul_bd {x y k l : Nat} (hx : x < 10000 ^ k) (hy : y < 10000 ^ l) : x * y < 10000 ^ (k + l) := by
  rw [Nat.pow_add]; exact Nat.mul_lt_mul'' hx hy
theorem hget4 {h : Heap} {A B C D : Option Blk} {l : List (Option Blk)} {n : Nat} (e : n = h.length) : Heap.get (h ++ A :: B :: C :: D :: l) (n + 2) = C ∧ Heap.get (h ++ A :: B :: C :: D :: l) (n + 3) = D := by
  rw [hget_base e, hget_base e]; exact ⟨rfl, rfl⟩
theorem hget_end {h l : Heap} {b : Option Blk} {n : Nat} (e : n = (h ++ l).length) : Heap.get (h ++ (l ++ [b])) n = b := by
  rw [← List.append_assoc, hget_base0 e]; rfl
/-- A power, times a number, against another one: as the reference does it. -/
theorem against {d lim : Nat} {h : Heap} {A B : Option Blk} {M D y z n : Nat} {e : Int} (hn : n ≤ 1000000000000001) (he : 1 ≤ e ∧ e ≤ 12) {k : Nat} (hk : k ≤ 70000) (hD : D < 10000 ^ k) (hM : (dgs M).length ≤ 70000) :
    ∃ v b1 v2 b2 v3 b3, E.call (d + 3) lim 89 [i64 n] (Heap.freeze (h.freeze ++ [A, B, bW M y, bW D z])) = some (v, Heap.freeze (h.freeze ++ [A, B, bW M y, bW D z]) ++ b1) ∧
      E.call (d + 3) lim 88 [v, i64 e] (h.freeze ++ (A :: B :: bW M y :: bW D z :: b1)) = some (v2, h.freeze ++ (A :: B :: bW M y :: bW D z :: (b1 ++ b2))) ∧
      E.call (d + 3) lim 87 [v2, sW (h.length + 3) D] (h.freeze ++ (A :: B :: bW M y :: bW D z :: (b1 ++ b2))) = some (v3, h.freeze ++ (A :: B :: bW M y :: bW D z :: (b1 ++ (b2 ++ b3)))) ∧
      E.call (d + 3) lim 90 [v3, sW (h.length + 2) M] (h.freeze ++ (A :: B :: bW M y :: bW D z :: (b1 ++ (b2 ++ b3)))) = some (i64 (cmpN (n ^ e.toNat * D) M), h.freeze ++ (A :: B :: bW M y :: bW D z :: (b1 ++ (b2 ++ b3)))) := by
  have hw : ((e.toNat : Nat) : Int) = e := by omega
  have hX : n < 10000 ^ 4 := Nat.lt_of_le_of_lt hn (by decide)
  obtain ⟨v, b1, k1, s1⟩ : ∃ v b1, E.call (d + 3) lim 89 [i64 n] (Heap.freeze (h.freeze ++ [A, B, bW M y, bW D z])) = some (v, Heap.freeze (h.freeze ++ [A, B, bW M y, bW D z]) ++ b1) ∧ SlW (h.freeze ++ (A :: B :: bW M y :: bW D z :: b1)) v (dgs n) := by
    by_cases n0 : n = 0
    · subst n0
      exact ⟨_, [], by rw [List.append_nil]; exact c89z (d := d + 2), SlW_nil⟩
    · refine ⟨_, [bW n 0], c89d (d := d + 2) (by omega) (by omega), SlW_bW (z := 0) (by simp) ?_⟩
      simp only [Heap.length_freeze, List.length_append, List.length_cons, List.length_nil]
      rw [hget_base (by simp)]; rfl
  have p1 := pow_len (m := e.toNat) (K := 12) hX (by omega)
  have b2 := pow_bd (m := e.toNat) (K := 12) hX (by omega)
  have b3 := mul_bd b2 hD
  have lD := dgs_len hD
  have l3 := dgs_len b3
  obtain ⟨w, k2⟩ := c88 (d := d + 1) (lim := lim) (K := e.toNat) (L := 4) s1 hX (by omega) (by omega)
  rw [hw] at k2
  generalize hH1 : (A :: B :: bW M y :: bW D z :: b1) = H1 at k2 s1
  have s2 : SlW (h.freeze ++ (H1 ++ [bW (n ^ e.toNat) w])) (sW (h.freeze ++ H1).length (n ^ e.toNat)) (dgs (n ^ e.toNat)) := SlW_bW (z := w) (by simp) (hget_end rfl)
  have s3 : SlW (h.freeze ++ (H1 ++ [bW (n ^ e.toNat) w])) (sW (h.length + 3) D) (dgs D) := by
    rw [← hH1]
    exact SlW_bW (z := z) (by simp) (hget4 (by simp)).2
  obtain ⟨u, k3⟩ := c87d (d := d + 2) (lim := lim) s2 s3 (by omega)
  generalize hH2 : H1 ++ [bW (n ^ e.toNat) w] = H2 at k3 s2 s3
  have s4 : SlW (h.freeze ++ (H2 ++ [bW (n ^ e.toNat * D) u])) (sW (h.freeze ++ H2).length (n ^ e.toNat * D)) (dgs (n ^ e.toNat * D)) := SlW_bW (z := u) (by simp) (hget_end rfl)
  have s5 : SlW (h.freeze ++ (H2 ++ [bW (n ^ e.toNat * D) u])) (sW (h.length + 2) M) (dgs M) := by
    rw [← hH2, ← hH1]
    exact SlW_bW (z := y) (by simp) (hget4 (by simp)).1
  have k4 := c90 (d := d + 2) (lim := lim) s4 s5 (by omega) (by omega)
  rw [cmpL_val (B := 10000) (by decide) (dgs_dig _) (dgs_dig _) (dgs_topped _) (dgs_topped _), dgs_val, dgs_val] at k4
  refine ⟨v, b1, sW (h.freeze ++ H1).length (n ^ e.toNat), [bW (n ^ e.toNat) w], sW (h.freeze ++ H2).length (n ^ e.toNat * D), [bW (n ^ e.toNat * D) u], k1, ?_, ?_, ?_⟩
  · rw [hH1, k2, ← hH1]; simp
  · have : A :: B :: bW M y :: bW D z :: (b1 ++ [bW (n ^ e.toNat) w]) = H2 := by rw [← hH2, ← hH1]; simp
    rw [this, k3]
    have : A :: B :: bW M y :: bW D z :: (b1 ++ ([bW (n ^ e.toNat) w] ++ [bW (n ^ e.toNat * D) u])) = H2 ++ [bW (n ^ e.toNat * D) u] := by rw [← hH2, ← hH1]; simp
    rw [this, List.append_assoc]
  · have : A :: B :: bW M y :: bW D z :: (b1 ++ ([bW (n ^ e.toNat) w] ++ [bW (n ^ e.toNat * D) u])) = H2 ++ [bW (n ^ e.toNat * D) u] := by rw [← hH2, ← hH1]; simp
    rw [this]; exact k4
theorem numV_b {a b c : Int} (ha : -400 ≤ a ∧ a ≤ 400) (hb : -400 ≤ b ∧ b ≤ 400) (hc : -400 ≤ c ∧ c ≤ 400) : ∃ k, k ≤ 2000 ∧ numV a b c 3 < 10000 ^ k ∧ numV (-a) (-b) (-c) 3 < 10000 ^ k := by
  obtain ⟨K, hK⟩ : ∃ K : Nat, K = 400 := ⟨_, rfl⟩
  exact ⟨K * 3 + 1, by omega, numV_lt (K := K) (a := a) (b := b) (c := c) (by omega) (by omega) (by omega) 3, numV_lt (K := K) (a := -a) (b := -b) (c := -c) (by omega) (by omega) (by omega) 3⟩
theorem c23 {d lim : Nat} {h : Heap} {a b c e : Int} {t L H : Nat} (h1 : isPitch a b c e = true) (ht : 1 ≤ t ∧ t ≤ 1000000000) (S : EncS a b c e t L H) :
    E.call (d + 4) lim 23 [pt a b c e, i64 t] h = some (rge (if H ≤ 1000000000000000 then (L : Int) else 0) (if H ≤ 1000000000000000 then (H : Int) else 0) (if H ≤ 1000000000000000 then 0 else 8), h) := by
  obtain ⟨r1, r2, r3, r4⟩ := isPitch_R h1
  have R : ∀ {q : Int}, -400 ≤ q ∧ q ≤ 400 → R2 q := fun hq => ⟨by omega, by omega⟩
  obtain ⟨y, z, k86⟩ := c86 (d := d) (lim := h.length) (h := h.freeze ++ [some ⟨[i64 a, i64 b, i64 c, i64 e], true⟩, some ⟨[i64 0, i64 0], true⟩]) (R r1) (R r2) (R r3)
  obtain ⟨k, hk, bN, bD⟩ := numV_b r1 r2 r3
  have S' := S
  have he : ((e.toNat : Nat) : Int) = e := by omega
  have hX : t < 10000 ^ 3 := Nat.lt_of_le_of_lt ht.2 (by decide)
  have pl := pow_len (m := e.toNat) (K := 12) hX (by omega)
  have pb := pow_bd (m := e.toNat) (K := 12) hX (by omega)
  have lN := dgs_len bN
  have lD := dgs_len bD
  have lM := dgs_len (mul_bd bN pb)
  have cmp1 : ∀ n, cmpN (n ^ e.toNat * numV (-a) (-b) (-c) 3) (numV a b c 3 * t ^ e.toNat) ≤ 0 ↔ encP a b c e t n := fun n => by
    rw [cmpN_nonpos, Nat.mul_comm (numV a b c 3)]; exact Iff.rfl
  have cmp2 : ∀ n, cmpN (n ^ e.toNat * numV (-a) (-b) (-c) 3) (numV a b c 3 * t ^ e.toNat) = 0 ↔ encQ a b c e t n := fun n => by
    rw [cmpN_zero, Nat.mul_comm (numV a b c 3)]; exact Iff.rfl
  generalize numV a b c 3 = N at *
  generalize numV (-a) (-b) (-c) 3 = D at *
  simp only [List.length_append, Heap.length_freeze, List.length_cons, List.length_nil, List.append_assoc, List.cons_append, List.nil_append, Nat.add_assoc, Nat.reduceAdd] at k86
  have k89 := fun lim hh => c89d (d := d + 2) (lim := lim) (h := hh) (n := t) (by omega) (by omega)
  obtain ⟨z1, k88⟩ := c88 (d := d + 1) (lim := h.length) (h := h.freeze ++ [some ⟨[i64 a, i64 b, i64 c, i64 e], true⟩, some ⟨[i64 0, i64 0], true⟩, bW N y, bW D z, bW t 0]) (v := sW (h.length + 4) t) (X := t) (K := e.toNat) (L := 3) (SlW_bW (z := 0) (by simp) (by rw [hget_base (by simp)]; rfl)) hX (by omega) (by omega)
  obtain ⟨z2, k87⟩ := c87d (d := d + 2) (lim := h.length) (h := h.freeze ++ [some ⟨[i64 a, i64 b, i64 c, i64 e], true⟩, some ⟨[i64 0, i64 0], true⟩, bW N y, bW D z, bW t 0, bW (t ^ e.toNat) z1]) (v := sW (h.length + 2) N) (w := sW (h.length + 5) (t ^ e.toNat)) (A := N) (B := t ^ e.toNat)
    (SlW_bW (z := y) (by simp) (by rw [hget_base (by simp)]; rfl)) (SlW_bW (z := z1) (by simp) (by rw [hget_base (by simp)]; rfl)) (by omega)
  rw [he] at k88
  simp only [List.length_append, Heap.length_freeze, List.length_cons, List.length_nil, List.append_assoc, List.cons_append, List.nil_append] at k87 k88
  generalize N * t ^ e.toNat = M at *
  have ag := fun n hn => against (d := d) (lim := h.length) (h := h) (A := some ⟨[i64 a, i64 b, i64 c, i64 e], true⟩) (B := some ⟨[i64 0, i64 0], true⟩) (M := M) (D := D) (y := z2) (z := z) (n := n) (e := e) (k := k) hn (by omega) (by omega) bD (by omega)
  refine call1 fn23 rfl (by simp [ef23]) ?_
  simp [ef23, k86, k89, k88, k87]
  refine wpC_loop (fun q st => ∃ l u : Nat, q = u - l ∧ l ≤ L ∧ L ≤ u ∧ u ≤ 1000000000000001 ∧
    st = ⟨[(2, .pointer (some ⟨h.length, 0, none⟩)), (4, .pointer (some ⟨h.length + 1, 0, none⟩)), (6, sW (h.length + 2) M), (7, sW (h.length + 3) D), (8, i64 l), (9, i64 u)],
      h.freeze ++ [some ⟨[i64 a, i64 b, i64 c, i64 e], true⟩, some ⟨[i64 0, i64 0], true⟩, bW M z2, bW D z]⟩) 1000000000000001 (by show 1000000000000001 < 2 ^ 64; decide) ?_ ?_
  · simp [St.tidy]
    exact ⟨0, 1000000000000001, by omega, by omega, S.le, by omega, rfl, rfl⟩
  · rintro q hq _ ⟨l, u, rfl, hl, hu, hu2, rfl⟩
    by_cases hlt : l < u
    · have hm := midN hlt hu2
      have hm1 : l < u - (u - l) / 2 ∧ u - (u - l) / 2 ≤ u := by omega
      generalize u - (u - l) / 2 = m at *
      obtain ⟨v, b1, v2, b2, v3, b3, a1, a2, a3, a4⟩ := ag m (by omega)
      have hS := S.iff m (by omega)
      have hc := cmp1 m
      by_cases hs : encP a b c e t m
      · have := hS.1 hs
        have hc' := hc.2 hs
        simp [hlt, hm, a1, a2, a3, a4, hc', St.tidy]
        exact ⟨u - m, by omega, m, u, by omega, by omega, hu, by omega, rfl, rfl⟩
      · have : ¬ m ≤ L := fun z => hs (hS.2 z)
        have hc' : ¬ cmpN (m ^ e.toNat * D) M ≤ 0 := fun z => hs (hc.1 z)
        have wm : IntKind.wrap .i64 ((m : Int) - 1) = ((m - 1 : Nat) : Int) := by rw [wrap_eq (by omega) (by omega)]; omega
        simp [hlt, hm, a1, a2, a3, a4, hc', wm, St.tidy]
        exact ⟨m - 1 - l, by omega, l, m - 1, by omega, hl, by omega, by omega, rfl, rfl⟩
    · have e1 : l = L := by omega
      subst e1
      obtain ⟨v, b1, v2, b2, v3, b3, a1, a2, a3, a4⟩ := ag l (by omega)
      have wl : IntKind.wrap .i64 ((l : Int) + 1) = ((l + 1 : Nat) : Int) := by rw [wrap_eq (by omega) (by omega)]; omega
      by_cases hs : encQ a b c e t l
      · have := S.on hs
        subst this
        have hc' := (cmp2 H).2 hs
        by_cases hH : H ≤ 1000000000000000
        · have h3 : ¬ (1000000000000000 : Int) < H := by omega
          simp [hlt, a1, a2, a3, a4, hc', hH, h3]
        · have h3 : (1000000000000000 : Int) < H := by omega
          simp [hlt, a1, a2, a3, a4, hc', hH, h3]
      · have := S.off hs
        subst this
        have hc' : ¬ cmpN (l ^ e.toNat * D) M = 0 := fun z => hs ((cmp2 l).1 z)
        by_cases hH : l + 1 ≤ 1000000000000000
        · have h3 : ¬ (1000000000000000 : Int) < (l : Int) + 1 := by omega
          simp [hlt, a1, a2, a3, a4, hc', hH, h3, wl]
        · have h3 : (1000000000000000 : Int) < (l : Int) + 1 := by omega
          simp [hlt, a1, a2, a3, a4, hc', hH, h3, wl]
end N
end Go.Abs
