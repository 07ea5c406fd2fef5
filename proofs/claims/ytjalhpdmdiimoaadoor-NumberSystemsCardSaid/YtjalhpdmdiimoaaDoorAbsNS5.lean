/- Systems of differences: the reference's solver. -/
import Derived.Test.YtjalhpdmdiimoaaDoorAbsNS4
set_option linter.unusedSimpArgs false
set_option linter.unusedVariables false
namespace Go.Abs
namespace N
set_option maxRecDepth 100000
set_option maxHeartbeats 0
/-- Some rounds more: the numbers of the first round that lowers nothing. -/
def tryR (l : List Bd) (n : Nat) : Nat → Nat → Option (List Int)
  | 0, _ => none
  | m + 1, k => if (iterR l n (k + 1)).low = none then some (iterR l n (k + 1)).x else tryR l n m (k + 1)
def solV (n : Nat) (b : Nat) : Option (List Int) → Value
  | none => .slice none 0 0
  | some _ => .slice (some ⟨b, 0, none⟩) n 1
def solB : Option (List Int) → List (Option Blk)
  | none => []
  | some x => [some ⟨cI x, true⟩]
theorem iter_ok {n : Nat} {l : List Bd} (G : Good n l) : ∀ k, (iterR l n k).x.length = n ∧ (iterR l n k).by_.length = n ∧ BxR n (k * l.length) (iterR l n k).x
  | 0 => ⟨by simp [iterR, zerosI], by simp [iterR, zerosN], fun v _ => by show _ ≤ gx (zerosI n) v ∧ gx (zerosI n) v ≤ 0; rw [gx_zeros]; omega⟩
  | k + 1 => by
    obtain ⟨a1, a2, a3⟩ := iter_ok G k
    have := relF_ok G a1 a2 a3 l.length (Nat.le_refl _)
    rw [show (k + 1) * l.length = k * l.length + l.length from Nat.succ_mul k l.length]
    exact this
theorem z0 (n : Nat) : zeros [Value.int .i64 0] n = cI (zerosI n) := by
  unfold zeros cI zerosI
  induction n with
  | zero => rfl
  | succ n ih => simp_all [List.replicate_succ]
theorem c37 {d lim : Nat} {h : Heap} {v : Value} {n : Nat} {l : List Bd} (s : SlB3 h v (l.map iB)) (G : Good n l) (h1 : 1 ≤ n) (h2 : n ≤ 60) (hl : l.length ≤ 210) :
    E.call (d + 1) lim 37 [.int .i64 (n : Int), v] h = some (.tuple #[solV n h.length (tryR l n (n + 1) 0), .bool (tryR l n (n + 1) 0).isSome], h ++ solB (tryR l n (n + 1) 0)) := by
  have ml : (l.map iB).length = l.length := by simp
  have r := s.rules2
  rw [ml] at r
  have n0 : n ≠ 0 := by omega
  have zz := z0 n
  have m1 : 8 * (n : Int) ≤ 140737488355328 := by omega
  have m2 : n ≤ maxLen := by unfold maxLen; omega
  have lz : (cI (zerosI n)).length = n := by simp [cI, zerosI]
  refine call_pure fn37 rfl (by simp [ef37]) ?_
  rcases Nat.eq_zero_or_pos l.length with hz | hz
  · have el : l = [] := List.eq_nil_of_length_eq_zero hz
    subst el
    have et : tryR [] n (n + 1) 0 = some (zerosI n) := by simp [tryR, iterR, relax, relF]
    rw [et]
    rcases s.low with rfl | ⟨bv, o', m', t', rfl, hbv⟩
    · simp [ef37, wpC_unroll, wpI_step, E_fuel', St.tidy, solV, solB, zz, m1, m2, lz, n0]
    · obtain rfl : m' = 0 := by
        have := s.len
        simpa using this
      simp [ef37, wpC_unroll, wpI_step, E_fuel', St.tidy, solV, solB, hbv, zz, m1, m2, lz, n0]
  obtain ⟨bv, o', rfl⟩ : ∃ bv o', v = .slice (some ⟨bv, o', none⟩) l.length 3 := ⟨_, _, by have := s.addr (by rw [ml]; omega); rw [ml] at this; exact this⟩
  have hbv := s.lt (by rw [ml]; omega)
  simp only [slB_some, slO_some] at r hbv
  generalize hT : tryR l n (n + 1) 0 = T0
  simp [ef37, zz, m1, m2, lz, n0]
  refine wpC_loop (fun q st => ∃ (k : Nat) (X : List Int) (B : List Nat) (lw : Option Nat), q = n + 1 - k ∧ k ≤ n + 1 ∧ iterR l n k = ⟨X, B, lw⟩ ∧ tryR l n (n + 1 - k) k = T0 ∧
    st = ⟨[(0, i6 (n : Int)), (1, .slice (some ⟨bv, o', none⟩) l.length 3), (6, .slice (some ⟨h.length, 0, none⟩) n 1), (7, i6 (k : Int))], h.freeze ++ [some ⟨cI X, true⟩]⟩) (n + 1) (by show n + 1 < 2 ^ 64; omega) ?_ ?_
  · simp [St.tidy, hbv]
    exact ⟨0, by omega, by omega, _, ⟨_, _, rfl⟩, hT, rfl, rfl⟩
  · rintro q hq _ ⟨k, X, B, lw, rfl, hk, hit, htr, rfl⟩
    have io := iter_ok G k
    rw [hit] at io
    obtain ⟨o1, o2, o3⟩ := io
    simp only at o1 o2 o3
    have wk := w1n (i := k) (by omega)
    by_cases hlt : k < n + 1
    · have hle : (k : Int) ≤ n := by omega
      have hln : k ≤ n := by omega
      have kl : k * l.length ≤ 61 * 210 := Nat.mul_le_mul (by omega) hl
      rw [show n + 1 - k = (n - k) + 1 by omega] at htr
      have nit : iterR l n (k + 1) = relF l ⟨X, B, none⟩ l.length := by
        show relax l (iterR l n k).x (iterR l n k).by_ = _
        rw [hit]; rfl
      simp only [tryR, nit] at htr
      simp [hle, hln]
      refine wpC_loop (fun q st => ∃ (i : Nat) (Xi : List Int) (Bi : List Nat) (lw : Option Nat), q = l.length - i ∧ i ≤ l.length ∧ relF l ⟨X, B, none⟩ i = ⟨Xi, Bi, lw⟩ ∧
        st = ⟨[(0, i6 (n : Int)), (1, .slice (some ⟨bv, o', none⟩) l.length 3), (6, .slice (some ⟨h.length, 0, none⟩) n 1), (7, i6 (k : Int)), (8, .bool lw.isSome), (9, i6 (i : Int))], h.freeze ++ [some ⟨cI Xi, true⟩]⟩) l.length (by show l.length < 2 ^ 64; omega) ?_ ?_
      · simp [St.tidy, hbv]
        exact ⟨0, by omega, by omega, _, _, _, rfl, ⟨rfl, rfl⟩, rfl⟩
      · rintro q hq _ ⟨i, Xi, Bi, lwi, rfl, hi, hs, rfl⟩
        obtain ⟨p1, p2, p3⟩ := relF_ok G o1 o2 o3 i hi
        rw [hs] at p1 p2 p3
        simp only at p1 p2 p3
        by_cases hli : i < l.length
        · have hm : i < (l.map iB).length := by rw [ml]; exact hli
          have a0 := cB_0 hm
          have a1 := cB_1 hm
          have a2 := cB_2 hm
          rw [atB_iB hli] at a0 a1 a2
          obtain ⟨g1, g2, g3, g4⟩ := G.rng i hli
          have nx : relF l ⟨X, B, none⟩ (i + 1) = stepR ⟨Xi, Bi, lwi⟩ i l[i] := by simp [relF, hs, List.getElem?_eq_getElem hli]
          unfold stepR at nx
          have w1' := w1n (i := i) (by omega)
          have k0 : i * 3 < l.length * 3 := by omega
          have k1 : i * 3 + 1 < l.length * 3 := by omega
          have k2 : i * 3 + 2 < l.length * 3 := by omega
          have h4 : (i : Int) < l.length := by omega
          generalize l[i] = e at *
          obtain ⟨f, t, m⟩ := e
          simp only [iB] at a0 a1 a2 nx g1 g2 g3 g4
          have cf := cI_gx (x := Xi) (v := f) (by omega)
          have ct := cI_gx (x := Xi) (v := t) (by omega)
          have bf := p3 f g1
          have bt := p3 t g2
          have wm : IntKind.wrap .i64 (gx Xi f + m) = gx Xi f + m := by rw [wrap_eq (by omega) (by omega)]
          have cfv : ∀ hh, (cI Xi)[f]'hh = .int .i64 (gx Xi f) := fun hh => by have := List.getElem?_eq_getElem hh; rw [cf] at this; exact (Option.some.inj this).symm
          have ctv : ∀ hh, (cI Xi)[t]'hh = .int .i64 (gx Xi t) := fun hh => by have := List.getElem?_eq_getElem hh; rw [ct] at this; exact (Option.some.inj this).symm
          have f0 : (f : Int) < n := by omega
          have t0 : (t : Int) < n := by omega
          have lX : (cI Xi).length = n := by simp [cI, p1]
          have ka : t + 1 ≤ n := by omega
          have sx := cI_setx Xi t (gx Xi f + m)
          by_cases q1 : gx Xi f + m < gx Xi t
          · rw [if_pos q1] at nx
            simp [hli, h4, r, k0, k1, k2, a0, a1, a2, cfv, ctv, wm, f0, t0, g1, g2, q1, lX, ka, sx, w1', St.tidy, hbv]
            exact ⟨⟨l.length - (i + 1), by omega, i + 1, by omega, by omega, _, _, _, nx, ⟨rfl, by omega⟩, rfl⟩, fun z => absurd z (by omega)⟩
          · rw [if_neg q1] at nx
            simp [hli, h4, r, k0, k1, k2, a0, a1, a2, cfv, ctv, wm, f0, t0, g1, g2, q1, lX, w1', St.tidy, hbv]
            exact ⟨⟨l.length - (i + 1), by omega, i + 1, by omega, by omega, _, _, _, nx, ⟨rfl, by omega⟩, rfl⟩, fun z => absurd z (by omega)⟩
        · obtain rfl : i = l.length := by omega
          rw [hs] at htr
          rcases lwi with _ | w
          · simp only [if_true] at htr
            rw [← htr]
            simp [r, solV, solB, hbv]
          · simp only [reduceCtorEq, if_false] at htr
            simp [r, St.tidy, hbv, wk]
            exact ⟨n + 1 - (k + 1), by omega, k + 1, by omega, by omega, _, ⟨_, _, by rw [nit, hs]⟩, by rw [show n + 1 - (k + 1) = n - k by omega]; exact htr, by omega, rfl⟩
    · obtain rfl : k = n + 1 := by omega
      have hle : ¬ ((n + 1 : Nat) : Int) ≤ n := by omega
      have hle2 : ¬ ((n : Int) + 1 ≤ n) := by omega
      rw [Nat.sub_self] at htr
      rw [← htr]
      simp [hle2, tryR, solV, solB]
end N
end Go.Abs
