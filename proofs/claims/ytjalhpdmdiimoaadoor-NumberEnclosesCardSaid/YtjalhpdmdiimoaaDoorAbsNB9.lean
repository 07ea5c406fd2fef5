/- The reference's product: the walk. -/
import Derived.Test.YtjalhpdmdiimoaaDoorAbsNB8
set_option linter.unusedSimpArgs false
set_option linter.unusedVariables false
namespace Go.Abs
namespace N
set_option maxRecDepth 100000
set_option maxHeartbeats 0
theorem cW_set (o : List Nat) (P R : Nat) : (cW o).set P (.int .i64 (R : Int)) = cW (o.set P R) := by simp [cW, List.map_set]
abbrev LowS (h : Heap) (v : Value) : Prop := v = .slice none 0 0 ∨ ∃ b o m t, v = .slice (some ⟨b, o, none⟩) m t ∧ b < h.length
theorem col4 {h : Heap} {v w : Value} {o : List Nat} {k : Nat} {a : Int} (hv : LowS h v) (hw : LowS h w) :
    collect h.length [v, w, .slice (some ⟨h.length, 0, none⟩) k 1, i64 a] (h.freeze ++ [some ⟨cW o, true⟩]) = some ([v, w, .slice (some ⟨h.length, 0, none⟩) k 1, i64 a], [some ⟨cW o, true⟩]) := by
  rcases hv with rfl | ⟨b, p, m, t, rfl, hb⟩ <;> rcases hw with rfl | ⟨b', p', m', t', rfl, hb'⟩ <;> simp [*]
theorem col6 {h : Heap} {v w : Value} {o : List Nat} {k : Nat} {a b c : Int} (hv : LowS h v) (hw : LowS h w) :
    collect h.length [v, w, .slice (some ⟨h.length, 0, none⟩) k 1, i64 a, i64 b, i64 c] (h.freeze ++ [some ⟨cW o, true⟩]) = some ([v, w, .slice (some ⟨h.length, 0, none⟩) k 1, i64 a, i64 b, i64 c], [some ⟨cW o, true⟩]) := by
  rcases hv with rfl | ⟨b, p, m, t, rfl, hb⟩ <;> rcases hw with rfl | ⟨b', p', m', t', rfl, hb'⟩ <;> simp [*]
theorem c87 {d lim : Nat} {h : Heap} {v w : Value} {l r : List Nat} (s : SlW h v l) (t : SlW h w r) (dl : digB 10000 l) (dr : digB 10000 r) (hs : l.length + r.length < 1000000) :
    E.call (d + 1) lim 87 [v, w] h = some (.slice (some ⟨h.length, 0, none⟩) (dgs (val 10000 l * val 10000 r)).length 1,
      h ++ [some ⟨cW (dgs (val 10000 l * val 10000 r) ++ List.replicate (l.length + r.length + 1 - (dgs (val 10000 l * val 10000 r)).length) 0), true⟩]) := by
  have p := s.rules2
  have p' := t.rules2
  have k4 := fun o k a => @col4 h v w o k a s.low t.low
  have k6 := fun o k a b c => @col6 h v w o k a b c s.low t.low
  have w0 : IntKind.wrap .i64 ((l.length : Int) + r.length) = (l.length : Int) + r.length := by rw [wrap_eq (by omega) (by omega)]
  have w1 : IntKind.wrap .i64 ((l.length : Int) + r.length + 1) = (l.length : Int) + r.length + 1 := by rw [wrap_eq (by omega) (by omega)]
  have e1 : (0 : Int) ≤ (l.length : Int) + r.length + 1 := by omega
  have e2 : 8 * ((l.length : Int) + r.length + 1) ≤ 140737488355328 := by omega
  have e3 : (l.length : Int) + r.length + 1 ≤ maxLen := by
    have : l.length + r.length + 1 ≤ maxLen := Nat.le_trans (by omega : l.length + r.length + 1 ≤ 1000001) (by decide)
    omega
  refine call_pure fn87 rfl (by simp [ef87]) ?_
  simp [ef87, p, p', w0, w1, zeros, e1, e2, e3]
  refine wpC_loop (fun q st => ∃ i o, q = l.length - i ∧ i ≤ l.length ∧ o.length = l.length + r.length + 1 ∧ digB 10000 o ∧ val 10000 o = val 10000 (l.take i) * val 10000 r ∧
    st = ⟨[(0, v), (1, w), (5, .slice (some ⟨h.length, 0, none⟩) o.length 1), (6, i64 i)], h.freeze ++ [some ⟨cW o, true⟩]⟩) l.length (by show l.length < 2 ^ 64; omega) ?_ ?_
  · have e4 : ((l.length : Int) + r.length + 1).toNat = l.length + r.length + 1 := by omega
    have e5 : List.replicate (l.length + r.length + 1) (Value.int .i64 0) = cW (List.replicate (l.length + r.length + 1) 0) := by simp [cW]
    have e6 : val 10000 (List.replicate (l.length + r.length + 1) 0) = 0 := by
      generalize l.length + r.length + 1 = n
      induction n with
      | zero => rfl
      | succ n ih => simp [List.replicate_succ, val, ih]
    have e7 : digB 10000 (List.replicate (l.length + r.length + 1) 0) := by intro x hx; rw [List.mem_replicate] at hx; omega
    simp [St.tidy, e4, e5, k4]
    exact ⟨0, by omega, by omega, List.replicate (l.length + r.length + 1) 0, by simp, e7, by simp [e6, val], by simp, rfl⟩
  · rintro q0 hq _ ⟨i, o, rfl, hi, ho, hd, hval, rfl⟩
    by_cases hlt : i < l.length
    · have u1 : IntKind.wrap .i64 ((i : Int) + 1) = ((i + 1 : Nat) : Int) := by rw [wrap_eq (by omega) (by omega)]; rfl
      simp [hlt, Nat.not_le.2 hlt, p]
      refine wpC_loop (fun q st => ∃ j c o, q = r.length + 1 - j ∧ j ≤ r.length + 1 ∧ c < 10000 ∧ o.length = l.length + r.length + 1 ∧ digB 10000 o ∧
        val 10000 o + c * 10000 ^ (i + j) = val 10000 (l.take i) * val 10000 r + l[i] * val 10000 (r.take j) * 10000 ^ i ∧
        st = ⟨[(0, v), (1, w), (5, .slice (some ⟨h.length, 0, none⟩) o.length 1), (6, i64 i), (7, i64 c), (8, i64 j)], h.freeze ++ [some ⟨cW o, true⟩]⟩) (r.length + 1) ?_ ?_ ?_
      · show r.length + 1 < 2 ^ 64; omega
      · simp [St.tidy, k6]
        exact ⟨0, by omega, by omega, 0, by omega, o, ho, hd, by rw [hval]; simp [val], ⟨rfl, rfl, rfl⟩, rfl⟩
      · rintro q1 hq1 _ ⟨j, c, o, rfl, hj, hc, ho, hd, hval, rfl⟩
        have cget : ∀ (k : Nat) (hk : k < o.length), (cW o)[k]? = some (.int .i64 (o[k]'hk)) := fun k hk => cW_get hk
        have u2 : IntKind.wrap .i64 ((i : Int) + j) = ((i + j : Nat) : Int) := by rw [wrap_eq (by omega) (by omega)]; rfl
        have u3 : IntKind.wrap .i64 ((j : Int) + 1) = ((j + 1 : Nat) : Int) := by rw [wrap_eq (by omega) (by omega)]; rfl
        by_cases hjr : j < r.length
        · obtain ⟨P, hP⟩ : ∃ P, P = i + j := ⟨_, rfl⟩
          have hPi : (i : Int) + (j : Int) = (P : Int) := by omega
          have pl : P < o.length := by omega
          have pl' : P + 1 ≤ o.length := pl
          have u4 : IntKind.wrap .i64 (P : Int) = P := by rw [wrap_eq (by omega) (by omega)]
          obtain ⟨y, hy⟩ : ∃ y, o[P] = y := ⟨_, rfl⟩
          obtain ⟨x, hx⟩ : ∃ x, l[i] = x := ⟨_, rfl⟩
          obtain ⟨b, hb⟩ : ∃ b, r[j] = b := ⟨_, rfl⟩
          have y1 : y < 10000 := by rw [← hy]; exact hd _ (List.getElem_mem pl)
          have x1 : x < 10000 := by rw [← hx]; exact dl _ (List.getElem_mem hlt)
          have b1 : b < 10000 := by rw [← hb]; exact dr _ (List.getElem_mem hjr)
          have q1 := carry_lt y1 hc x1 b1
          have m1 : x * b ≤ 9999 * 9999 := Nat.mul_le_mul (by omega) (by omega)
          have hval' := hval
          rw [← hP] at hval'
          have hsv := step_val (a := x) (x := b) pl hP hval'
          rw [hy] at hsv
          obtain ⟨A, hA⟩ : ∃ A, x * b = A := ⟨_, rfl⟩
          have hAi : (x : Int) * (b : Int) = (A : Int) := by rw [← hA]; rfl
          rw [hA] at hsv q1 m1
          obtain ⟨Q, hQ⟩ : ∃ Q, (y + c + A) / 10000 = Q := ⟨_, rfl⟩
          obtain ⟨R, hR⟩ : ∃ R, (y + c + A) % 10000 = R := ⟨_, rfl⟩
          have R1 : R < 10000 := by omega
          rw [hQ] at q1
          rw [hQ, hR] at hsv
          have t1 : IntKind.wrap .i64 ((y : Int) + c) = y + c := by rw [wrap_eq (by omega) (by omega)]
          have t2 : IntKind.wrap .i64 (A : Int) = A := by rw [wrap_eq (by omega) (by omega)]
          have t3 : IntKind.wrap .i64 ((y : Int) + c + A) = y + c + A := by rw [wrap_eq (by omega) (by omega)]
          have t4 : qmod ((y : Int) + c + A) 10000 = (R : Int) := by unfold qmod; rw [Int.tmod_eq_emod_of_nonneg (by omega)]; omega
          have t5 : IntKind.wrap .i64 (qdiv ((y : Int) + c + A) 10000) = (Q : Int) := by
            have : qdiv ((y : Int) + c + A) 10000 = (Q : Int) := by unfold qdiv; rw [Int.tdiv_eq_ediv_of_nonneg (by omega)]; omega
            rw [this, wrap_eq (by omega) (by omega)]
          have g1 := cget P pl
          have g2 := cW_get hlt
          have g3 := cW_get hjr
          rw [hy] at g1
          rw [hx] at g2
          rw [hb] at g3
          simp [hjr, Nat.not_le.2 hjr, p, p', hlt, hPi, pl, u4, hy, hx, hb, hAi, t1, t2, t3, t4, t5, g1, g2, g3, u3, cW_set, pl']
          simp [St.tidy, k6]
          refine ⟨r.length + 1 - (j + 1), by omega, j + 1, rfl, by omega, Q, q1, o.set P R, by simpa using ho, set_dig hd R1, ?_, by simp, rfl⟩
          rw [val_take 10000 hjr, hb, Nat.mul_add, Nat.add_mul]
          rw [hx] at hsv
          have e9 : i + (j + 1) = P + 1 := by omega
          rw [e9, hsv, Nat.add_assoc]
        · by_cases c0 : 0 < c
          · have hj' : j = r.length := by
              rcases Nat.lt_or_ge r.length j with z | z
              · have tk : r.take j = r := List.take_of_length_le (by omega)
                rw [tk] at hval
                have := carry_end hlt dl dr hval z
                omega
              · omega
            have c0' : (0 : Int) < c := by omega
            obtain ⟨P, hP⟩ : ∃ P, P = i + j := ⟨_, rfl⟩
            have hPi : (i : Int) + (j : Int) = (P : Int) := by omega
            have pl : P < o.length := by omega
            have pl' : P + 1 ≤ o.length := pl
            have u4 : IntKind.wrap .i64 (P : Int) = P := by rw [wrap_eq (by omega) (by omega)]
            obtain ⟨y, hy⟩ : ∃ y, o[P] = y := ⟨_, rfl⟩
            have y1 : y < 10000 := by rw [← hy]; exact hd _ (List.getElem_mem pl)
            have hval' := hval
            rw [← hP] at hval'
            have hsv := step_val (a := 0) (x := 0) pl hP hval'
            rw [hy, Nat.zero_mul, Nat.add_zero, Nat.zero_mul, Nat.zero_mul, Nat.add_zero] at hsv
            obtain ⟨Q, hQ⟩ : ∃ Q, (y + c) / 10000 = Q := ⟨_, rfl⟩
            obtain ⟨R, hR⟩ : ∃ R, (y + c) % 10000 = R := ⟨_, rfl⟩
            have R1 : R < 10000 := by omega
            have q1 : Q < 10000 := by omega
            rw [hQ, hR] at hsv
            have t3 : IntKind.wrap .i64 ((y : Int) + c) = y + c := by rw [wrap_eq (by omega) (by omega)]
            have t4 : qmod ((y : Int) + c) 10000 = (R : Int) := by unfold qmod; rw [Int.tmod_eq_emod_of_nonneg (by omega)]; omega
            have t5 : IntKind.wrap .i64 (qdiv ((y : Int) + c) 10000) = (Q : Int) := by
              have : qdiv ((y : Int) + c) 10000 = (Q : Int) := by unfold qdiv; rw [Int.tdiv_eq_ediv_of_nonneg (by omega)]; omega
              rw [this, wrap_eq (by omega) (by omega)]
            have g1 := cget P pl
            rw [hy] at g1
            have tk1 : r.take j = r := List.take_of_length_le (by omega)
            have tk2 : r.take (j + 1) = r := List.take_of_length_le (by omega)
            simp [hjr, Nat.not_lt.1 hjr, c0, c0', p, p', hlt, hPi, pl, u4, hy, t3, t4, t5, g1, u3, cW_set, pl']
            simp [St.tidy, k6]
            refine ⟨r.length + 1 - (j + 1), by omega, j + 1, rfl, by omega, Q, q1, o.set P R, by simpa using ho, set_dig hd R1, ?_, by simp, rfl⟩
            have e9 : i + (j + 1) = P + 1 := by omega
            rw [tk1] at hsv
            rw [e9, tk2, hsv, Nat.add_zero]
          · have c0' : ¬ (0 : Int) < c := by omega
            have cz : c = 0 := by omega
            have tk1 : r.take j = r := List.take_of_length_le (by omega)
            rw [cz, Nat.zero_mul, Nat.add_zero, tk1] at hval
            simp [hjr, Nat.not_lt.1 hjr, c0, c0', cz, p, p', u1]
            simp [St.tidy, k4]
            refine ⟨l.length - (i + 1), by omega, i + 1, rfl, by omega, o, ho, hd, ?_, by simp, rfl⟩
            rw [hval, val_take 10000 hlt, Nat.add_mul]
            congr 1
            rw [Nat.mul_comm (10000 ^ i), Nat.mul_assoc, Nat.mul_assoc, Nat.mul_comm (val 10000 r)]
    · have e : i = l.length := by omega
      subst e
      rw [List.take_length] at hval
      have hu := dgs_uniq hd
      rw [hval, ho] at hu
      generalize hV : val 10000 l * val 10000 r = V at *
      have hle : (dgs V).length ≤ o.length := by rw [hu]; simp
      have htop := dgs_topped V
      have zer : ∀ k (hk : k < o.length), (dgs V).length ≤ k → o[k] = 0 := fun k hk hge => by
        have : o[k]? = some 0 := by
          rw [hu, List.getElem?_append_right hge, List.getElem?_replicate, if_pos (by omega)]
        rw [List.getElem?_eq_getElem hk] at this
        exact Option.some.inj this
      have nz : ∀ k (hk : k < o.length), (dgs V).length = k + 1 → o[k] ≠ 0 := fun k hk he => by
        have hne : dgs V ≠ [] := by intro z; rw [z] at he; simp at he
        have h1 := htop hne
        rw [List.getLast_eq_getElem] at h1
        have h2 : o[k]? = (dgs V)[k]? := by rw [hu, List.getElem?_append_left (by omega)]
        rw [List.getElem?_eq_getElem hk, List.getElem?_eq_getElem (by omega)] at h2
        rw [Option.some.inj h2]
        intro h3
        apply h1
        rw [← h3]
        congr 1
        omega
      simp [p]
      refine wpC_loop (fun q st => q ≤ o.length ∧ (dgs V).length ≤ q ∧ st = ⟨[(5, .slice (some ⟨h.length, 0, none⟩) q 1)], h.freeze ++ [some ⟨cW o, true⟩]⟩) o.length ?_ ?_ ?_
      · show o.length < 2 ^ 64; omega
      · simp [St.tidy]; exact hle
      · rintro q hq _ ⟨hq1, hq2, rfl⟩
        cases q with
        | zero =>
          have : (dgs V).length = 0 := by omega
          simp [St.tidy, this]
          rw [this, Nat.sub_zero] at hu
          rw [← hu]
        | succ q =>
          have ql : q < o.length := hq1
          have ql' : q + 1 ≤ o.length := hq1
          have g1 := cW_get ql
          have u5 : IntKind.wrap .i64 (q : Int) = q := by rw [wrap_eq (by omega) (by omega)]
          by_cases z : (dgs V).length = q + 1
          · have := nz q ql z
            simp [ql, ql', g1, u5, this, St.tidy]
            exact ⟨by omega, z.symm, by rw [← hu]⟩
          · have := zer q ql (by omega)
            have ba : (q : Int) < q + 1 := by omega
            simp [ql, ql', g1, u5, this, St.tidy, E.bound, Ctx.eval, ba]
            exact ⟨q, by omega, by omega, by omega, rfl⟩
end N
end Go.Abs
