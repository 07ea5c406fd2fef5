/- The law TemperTests. -/
import Derived.Test.YtinbdefjjfmfoaaDoorAbsTIM
set_option linter.unusedSimpArgs false
set_option linter.unusedVariables false
namespace Go.Abs
namespace T
set_option maxRecDepth 100000
set_option maxHeartbeats 0
theorem SlX_nil {h : Heap} : SlX h (.slice none 0 0) [] := ⟨rfl, rfl, fun z => absurd rfl z, .inl rfl, fun k hk => absurd hk (by simp)⟩
theorem ts_ok {s lo hi : Nat} {p q : Int} (hr : mLook ratL (s : Int) = some (p, q)) (h1 : lo ≤ 87) (h2 : hi ≤ 87) {i : Nat} (hi' : i < hi + 1 - (lo + s)) :
    chkX ((lo + i : Nat) : Int) ((lo + i + s : Nat) : Int) p q = 0 := by
  obtain ⟨⟨r1, r2⟩, ⟨p1, p2⟩, ⟨q1, q2⟩, f1, f2⟩ := rat_ok hr
  have w1 : within p 1 16 = true := by simp [within]; omega
  have w2 : within q 1 16 = true := by simp [within]; omega
  unfold chkX
  rw [if_pos ⟨isNote_mk (by omega), isNote_mk (by omega), w1, w2⟩, if_neg (by omega), if_pos ⟨f1, f2⟩]
theorem law6 (lim : Nat) {h : Heap} (A : AwOk h) {n m p q s lo hi : Int} : E.call 21 lim 6 [pt n m p q, v3 (s, lo, hi)] h = some (.bool true, h) := by
  have a1 := A
  unfold AwOk at a1
  have k35 := fun lim hh n m p q => c35 (d := 18) (lim := lim) (h := hh) (n := n) (m := m) (p := p) (q := q)
  have k36 := fun lim hh => c36 (d := 17) (lim := lim) (h := hh) (n := n) (m := m) (p := p) (q := q)
  have k37 := fun lim hh => c37 (d := 18) (lim := lim) (h := hh) (s := s)
  have k39 := fun lim hh => c39 (d := 19) (lim := lim) (h := hh) (s := s)
  refine call1 fn6 rfl (by simp [ef6]) ?_
  rcases hr : mLook ratL s with _ | ⟨p', q'⟩
  · have e2 : ratV s = (0, 0) := by simp [ratV, hr]
    rw [hr, e2] at k37
    rw [e2] at k39
    have k38 := fun lim hh => c38n (d := 18) (lim := lim) (h := hh) (lo := lo) (hi := hi) hr
    simp [ef6, a1, k35, k36, k37, k38, k39]
  · have e2 : ratV s = (p', q') := by simp [ratV, hr]
    rw [hr, e2] at k37
    rw [e2] at k39
    obtain ⟨⟨r1, r2⟩, ⟨p1, p2⟩, _⟩ := rat_ok hr
    have p0 : p' ≠ 0 := by omega
    by_cases hl : isNote lo = true
    · by_cases hh : isNote hi = true
      · by_cases ho : hi < lo
        · have k38 := fun lim hh' => c38o (d := 18) (lim := lim) (h := hh') hr hl hh ho
          simp [ef6, a1, k35, k36, k37, k38, k39, p0, c24, hl, hh, ho]
        · obtain ⟨lo, rfl, hlo⟩ := isNote_nat hl
          obtain ⟨hi, rfl, hhi⟩ := isNote_nat hh
          obtain ⟨s, rfl⟩ : ∃ k : Nat, s = k := ⟨s.toNat, by omega⟩
          have h3 : lo ≤ hi := by omega
          have ho' : ¬ ((hi : Int) < lo) := ho
          have k38 := fun lim hh' => c38 (d := 18) (lim := lim) (h := hh') hr hlo hhi h3
          have k41 := fun lim hh' => c41 (d := 18) (lim := lim) (h := hh') hr hlo hhi h3
          have ok := fun i hi' => ts_ok hr hlo hhi (i := i) hi'
          have hK : hi + 1 - (lo + s) ≤ 88 := by omega
          generalize hKe : hi + 1 - (lo + s) = K at *
          have ln := tsL_len s p' q' lo K
          have at' := fun i hi' => tsL_at s p' q' lo K i hi'
          rcases Nat.eq_zero_or_pos K with z | z
          · subst z
            have k40 := fun lim hh' => c40 (d := 19) (lim := lim) (h := hh') SlX_nil SlX_nil (by simp)
            simp [conV, conB] at k38 k41
            simp [ef6, a1, k35, k36, k37, k38, k39, p0, c24, hl, hh, ho, ho', wpC_unroll, wpI_step, E_fuel, St.tidy, k41, k40]
          · have z0 : K ≠ 0 := by omega
            have pl := cX_plain (tsL s p' q' lo K)
            simp [conV, conB, z0] at k38 k41
            simp [ef6, a1, k35, k36, k37, k38, k39, p0, c24, hl, hh, ho, ho']
            have zI : (0 : Int) < K := by omega
            refine wpC_loop (fun r st => ∃ i : Nat, r = K - i ∧ i ≤ K ∧ st = ⟨[(3, .pointer (some ⟨h.length, 0, none⟩)), (8, .slice (some ⟨h.length + 1, 0, none⟩) K 4), (9, i64 0), (12, i64 i)],
              h.freeze ++ [some ⟨[i64 s, i64 lo, i64 hi], true⟩, some ⟨cX (tsL s p' q' lo K), true⟩]⟩) K (by show K < 2 ^ 64; omega) ?_ ?_
            · simp [St.tidy, pl]
              exact ⟨0, by omega, by omega, rfl⟩
            · rintro r hr' _ ⟨i, rfl, hi', rfl⟩
              by_cases hlt : i < K
              · have w1' := w1 (i := i) (by omega)
                simp only [W] at w1'
                have h4 : (i : Int) < K := by omega
                have gs : ∀ L, Heap.get (h.freeze ++ (some ⟨[i64 s, i64 lo, i64 hi], true⟩ :: some ⟨cX (tsL s p' q' lo K), true⟩ :: L)) (h.length + 1) = some ⟨cX (tsL s p' q' lo K), true⟩ := fun L => by rw [hget_base (by simp)]; rfl
                have pp := fun L => (SlX_own (gs L) ln.symm).rules2
                have p1 := cX_part (l := tsL s p' q' lo K) (i := i) (by omega)
                rw [at' i hlt] at p1
                have o1 := ok i hlt
                have ll := cX_len (tsL s p' q' lo K)
                have k2 : i * 4 + 4 ≤ K * 4 := by omega
                generalize hg : lo + i = g at *
                generalize hg2 : g + s = g2 at *
                simp [h4, Int.not_le.2 h4, p1, k35, o1, ll, ln, k2, w1', St.tidy, pl]
                exact ⟨fun _ => ⟨K - (i + 1), by omega, i + 1, by omega, by omega, by omega⟩, fun z => absurd z (by omega)⟩
              · obtain rfl : i = K := by omega
                have gs : ∀ L, Heap.get (h.freeze ++ (some ⟨[i64 s, i64 lo, i64 hi], true⟩ :: some ⟨cX (tsL s p' q' lo i), true⟩ :: L)) (h.length + 1) = some ⟨cX (tsL s p' q' lo i), true⟩ := fun L => by rw [hget_base (by simp)]; rfl
                have gs2 : ∀ B L, Heap.get (h.freeze ++ (some ⟨[i64 s, i64 lo, i64 hi], true⟩ :: B :: some ⟨cX (tsL s p' q' lo i), true⟩ :: L)) (h.length + 2) = some ⟨cX (tsL s p' q' lo i), true⟩ := fun B L => by rw [hget_base (by simp)]; rfl
                have k40 := fun lim => c40 (d := 19) (lim := lim) (SlX_own (gs _) ln.symm) (SlX_own (gs2 (some ⟨cX (tsL s p' q' lo i), true⟩) []) ln.symm) (by omega)
                simp at k40
                simp [k41, k40]
      · simp only [Bool.not_eq_true] at hh
        have k38 := fun lim hh' => c38r (d := 18) (lim := lim) (h := hh') (lo := lo) hr (fun _ => hh)
        simp [ef6, a1, k35, k36, k37, k38, k39, p0, c24, hl, hh]
    · simp only [Bool.not_eq_true] at hl
      have k38 := fun lim hh' => c38r (d := 18) (lim := lim) (h := hh') (hi := hi) hr (fun q => by rw [hl] at q; cases q)
      simp [ef6, a1, k35, k36, k37, k38, k39, p0, c24, hl]
theorem temperTests_law : ∀ (bs : List (Option Blk)) us, Heap.freeze ([primesB] ++ bs) = [primesB] ++ bs → (∀ n, ctBlocks (([(true, [ctI, ctI, ctI, ctI]), (true, [ctI, ctI, ctI])] : List (Bool × List CT)).flatMap (·.2)) = some n → bs.length = n) →
    ArgsV 6 ([primesB] ++ bs) [(true, [ctI, ctI, ctI, ctI]), (true, [ctI, ctI, ctI])] us → ∃ h', E.call 21 (([primesB] : Heap) ++ bs).length 6 us ([primesB] ++ bs) = some (.bool true, h') := by
  intro bs us _ k a
  obtain ⟨u, v, rfl, a1, a2⟩ := args2 a
  obtain ⟨_, _, _, _, rfl, _⟩ := arg_agg4 a1
  obtain ⟨_, _, _, rfl, _⟩ := arg_agg3 a2
  exact ⟨_, law6 _ (awOk bs)⟩
end T
end Go.Abs
