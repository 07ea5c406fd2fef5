/- CheckLine of the program. -/
import Derived.Test.YtjalhpdmdiimoaaDoorAbsNO
set_option linter.unusedSimpArgs false
set_option linter.unusedVariables false
namespace Go.Abs.N
open Go Go.Abs
set_option maxRecDepth 100000
set_option maxHeartbeats 0
/-- Is some dot missed by more? From i on. -/
def brk (l : D2) (U sN sD pN pD W : Int) (i : Nat) : Bool := if i < l.length then (if W < max (wrongV U sN sD pN pD (dx l i) (dy l i)) (IntKind.wrap .i64 (-wrongV U sN sD pN pD (dx l i) (dy l i))) then true else brk l U sN sD pN pD W (i + 1)) else false
termination_by l.length - i
theorem brk_lt {l : D2} {U sN sD pN pD W : Int} {i : Nat} (h : i < l.length) : brk l U sN sD pN pD W i = if W < max (wrongV U sN sD pN pD (dx l i) (dy l i)) (IntKind.wrap .i64 (-wrongV U sN sD pN pD (dx l i) (dy l i))) then true else brk l U sN sD pN pD W (i + 1) := by conv => lhs; unfold brk; rw [if_pos h]
theorem brk_ge {l : D2} {U sN sD pN pD W : Int} {i : Nat} (h : ¬ i < l.length) : brk l U sN sD pN pD W i = false := by unfold brk; rw [if_neg h]
def prf (l : D2) (U sN sD pN pD W : Int) (i j k : Nat) : Int :=
  if max (wrongV U sN sD pN pD (dx l i) (dy l i)) (IntKind.wrap .i64 (-wrongV U sN sD pN pD (dx l i) (dy l i))) = W ∧
    wrongV U sN sD pN pD (dx l j) (dy l j) = IntKind.wrap .i64 (-wrongV U sN sD pN pD (dx l i) (dy l i)) ∧ wrongV U sN sD pN pD (dx l k) (dy l k) = wrongV U sN sD pN pD (dx l i) (dy l i) then 0 else 22
def f3 (sN sD pN pD eN eD : Int) : Int := if checkFrac sN sD = 0 then (if checkFrac pN pD = 0 then checkFrac eN eD else checkFrac pN pD) else checkFrac sN sD
def idx3 (n : Nat) (i j k : Int) : Bool := within i 0 (n - 1) && within j 0 (n - 1) && within k 0 (n - 1)
def lineE (l : D2) (sN sD pN pD eN eD i j k : Int) : Int :=
  if dotsV l ≠ 0 then dotsV l else if f3 sN sD pN pD eN eD ≠ 0 then f3 sN sD pN pD eN eD else if commE sD pD eD ≠ 0 then commE sD pD eD else if idx3 l.length i j k = false then 6
  else if j ≤ i ∨ k ≤ j then 9 else if brk l (commV sD pD eD) sN sD pN pD (overV (commV sD pD eD) eN eD) 0 = true then 26 else prf l (commV sD pD eD) sN sD pN pD (overV (commV sD pD eD) eN eD) i.toNat j.toNat k.toNat
abbrev tv (sN sD pN pD eN eD i j k : Int) : Value := .agg #[i64 sN, i64 sD, i64 pN, i64 pD, i64 eN, i64 eD, i64 i, i64 j, i64 k]
theorem den0 {n m : Int} (h : checkFrac n m = 0) : m ≠ 0 := by unfold checkFrac at h; intro e; subst e; simp at h
theorem c58 {d lim : Nat} {h : Heap} {v : Value} {l : D2} {sN sD pN pD eN eD i j k : Int} (s : SlD h v l) (r1 : R64 sD) (r2 : R64 pD) (r3 : R64 eD) :
    E.call (d + 3) lim 58 [v, tv sN sD pN pD eN eD i j k] h = some (i64 (lineE l sN sD pN pD eN eD i j k), h) := by
  have r := s.rules2
  refine call1 fn58 rfl (by simp [ef58]) ?_
  by_cases hd : dotsV l = 0
  · have D := dots_ok hd
    have hn := D.n3
    have hm60 := D.n60
    obtain ⟨bk, of, rfl⟩ : ∃ b o, v = .slice (some ⟨b, o, none⟩) l.length 2 := ⟨_, _, s.addr (by omega)⟩
    have hb := s.lt (by omega)
    simp only [slB_some, slO_some] at r hb
    have u1 := fun C => @wpC_unroll C (some [0, 3, 33, 34])
    have u2 := fun C => @wpC_unroll C (some [0, 3, 9, 58, 59])
    by_cases h1 : checkFrac sN sD = 0
    · by_cases h2 : checkFrac pN pD = 0
      · by_cases h3 : checkFrac eN eD = 0
        · have d1 := den0 h1; have d2 := den0 h2; have d3 := den0 h3
          by_cases h4 : commE sD pD eD = 0
          · have w1 : IntKind.wrap .i64 ((l.length : Int) - 1) = l.length - 1 := wrap_eq (by omega) (by omega)
            by_cases h5 : idx3 l.length i j k = true
            · by_cases h6 : j ≤ i ∨ k ≤ j
              · have hx := h5
                simp only [idx3, Bool.and_eq_true] at hx
                obtain ⟨⟨a1, a2⟩, a3⟩ := hx
                by_cases q : j ≤ i
                · simp [ef58, r, hb, s, c91 (l := l), hd, u1, u2, wpI_step, E_fuel, St.tidy, c64 r1, c64 r2, c64 r3, h1, h2, h3, c115 sN sD pN pD eN eD, r1, r2, r3, d1, d2, d3, h4, w1, c77, a1, a2, a3, lineE, f3, h5, q, Int.not_lt.2 q]
                · have q' := h6.resolve_left q
                  simp [ef58, r, hb, s, c91 (l := l), hd, u1, u2, wpI_step, E_fuel, St.tidy, c64 r1, c64 r2, c64 r3, h1, h2, h3, c115 sN sD pN pD eN eD, r1, r2, r3, d1, d2, d3, h4, w1, c77, a1, a2, a3, lineE, f3, h5, q, Int.not_le.1 q, q', Int.not_lt.2 q']
              · have hx := h5
                simp only [idx3, Bool.and_eq_true] at hx
                obtain ⟨⟨a1, a2⟩, a3⟩ := hx
                obtain ⟨i, rfl⟩ : ∃ m : Nat, i = m := ⟨i.toNat, by simp [within] at a1; omega⟩
                obtain ⟨j, rfl⟩ : ∃ m : Nat, j = m := ⟨j.toNat, by simp [within] at a2; omega⟩
                obtain ⟨k, rfl⟩ : ∃ m : Nat, k = m := ⟨k.toNat, by simp [within] at a3; omega⟩
                have hij : i < j := by omega
                have hjk : j < k := by omega
                have hk : k < l.length := by simp [within] at a3; omega
                have q1 : ¬ (j ≤ i) := by omega
                have q2 : ¬ (k ≤ j) := by omega
                have c1 := fun lim (hh : Heap) b o (z1 : b < hh.length) (z2 : hh.cell b o = some (i64 (commV sD pD eD))) => @c116 (d + 1) lim hh b o eN eD (commV sD pD eD) z1 z2 d3
                simp [ef58, r, hb, s, c91 (l := l), hd, u1, u2, wpI_step, E_fuel, St.tidy, c64 r1, c64 r2, c64 r3, h1, h2, h3, c115 sN sD pN pD eN eD, r1, r2, r3, d1, d2, d3, h4, w1, c77, a1, a2, a3, hij, hjk, q1, q2, Nat.not_le.2 hij, Nat.not_le.2 hjk, c1]
                have d0 := hd
                have hres : lineE l sN sD pN pD eN eD i j k = if brk l (commV sD pD eD) sN sD pN pD (overV (commV sD pD eD) eN eD) 0 = true then 26 else prf l (commV sD pD eD) sN sD pN pD (overV (commV sD pD eD) eN eD) i j k := by
                  simp [lineE, f3, hd, h1, h2, h3, h4, h5, q1, q2]
                rw [hres]
                generalize hU : commV sD pD eD = U
                generalize hW : overV U eN eD = W
                refine wpC_loop (fun m st => ∃ q : Nat, m = l.length - q ∧ q ≤ l.length ∧ brk l U sN sD pN pD W q = brk l U sN sD pN pD W 0 ∧
                  st = ⟨[(0, .slice (some ⟨bk, of, none⟩) l.length 2), (3, .pointer (some ⟨h.length, 0, none⟩)), (14, .func (.func 117) #[] #[.pointer (some ⟨h.length + 1, 0, none⟩), .pointer (some ⟨h.length + 2, 0, none⟩), .pointer (some ⟨h.length, 0, none⟩)]),
                    (15, i64 W), (91, .slice (some ⟨bk, of, none⟩) l.length 2), (92, i64 l.length), (93, i64 q)],
                    h.freeze ++ [some ⟨[i64 sN, i64 sD, i64 pN, i64 pD, i64 eN, i64 eD, i64 i, i64 j, i64 k], true⟩, some ⟨[i64 U], true⟩, some ⟨[.func (.func 116) #[] #[.pointer (some ⟨h.length + 1, 0, none⟩)]], true⟩]⟩) l.length ?_ ?_ ?_
                · show l.length < 2 ^ 64; omega
                · simp [St.tidy, hb]
                  exact ⟨0, by simp, by omega, rfl, rfl⟩
                · rintro m0 hm0 _ ⟨q, rfl, hq, hbk, rfl⟩
                  by_cases hlt : q < l.length
                  · have w2 := wrapN1 (n := q) (by omega)
                    have k2 : q * 2 + 2 ≤ l.length * 2 := by omega
                    have p1 := cD_p hlt
                    rw [brk_lt hlt] at hbk
                    simp [St.tidy, hlt, Nat.not_le.2 hlt, w2, r, hb, k2, p1, c117 U sN sD pN pD, d1, d2]
                    refine ⟨fun hc hb0 => ?_, fun hc => ⟨l.length - (q + 1), by omega, q + 1, rfl, by omega, ?_, by omega⟩⟩
                    · rw [if_pos hc, hb0] at hbk; cases hbk
                    · rw [if_neg (by omega)] at hbk; exact hbk
                  · have : q = l.length := by omega
                    subst this
                    rw [brk_ge (Nat.lt_irrefl _)] at hbk
                    have hi : i < l.length := by omega
                    have hj : j < l.length := by omega
                    have k1 : i * 2 + 2 ≤ l.length * 2 := by omega
                    have k2 : j * 2 + 2 ≤ l.length * 2 := by omega
                    have k3 : k * 2 + 2 ≤ l.length * 2 := by omega
                    have p1 := cD_p hi; have p2 := cD_p hj; have p3 := cD_p hk
                    have hpr : prf l U sN sD pN pD W i j k = if max (wrongV U sN sD pN pD (dx l i) (dy l i)) (IntKind.wrap .i64 (-wrongV U sN sD pN pD (dx l i) (dy l i))) = W ∧
                        wrongV U sN sD pN pD (dx l j) (dy l j) = IntKind.wrap .i64 (-wrongV U sN sD pN pD (dx l i) (dy l i)) ∧ wrongV U sN sD pN pD (dx l k) (dy l k) = wrongV U sN sD pN pD (dx l i) (dy l i) then 0 else 22 := rfl
                    by_cases z1 : max (wrongV U sN sD pN pD (dx l i) (dy l i)) (IntKind.wrap .i64 (-wrongV U sN sD pN pD (dx l i) (dy l i))) = W
                    · by_cases z2 : wrongV U sN sD pN pD (dx l j) (dy l j) = IntKind.wrap .i64 (-wrongV U sN sD pN pD (dx l i) (dy l i))
                      · by_cases z3 : wrongV U sN sD pN pD (dx l k) (dy l k) = wrongV U sN sD pN pD (dx l i) (dy l i)
                        · simp [hb, hi, hj, hk, k1, k2, k3, p1, p2, p3, r, c117 U sN sD pN pD, d1, d2, ← hbk, hpr, z1, z2, z3]
                        · simp [hb, hi, hj, hk, k1, k2, k3, p1, p2, p3, r, c117 U sN sD pN pD, d1, d2, ← hbk, hpr, z1, z2, z3]
                      · simp [hb, hi, hj, hk, k1, k2, k3, p1, p2, p3, r, c117 U sN sD pN pD, d1, d2, ← hbk, hpr, z1, z2]
                    · simp [hb, hi, hj, hk, k1, k2, k3, p1, p2, p3, r, c117 U sN sD pN pD, d1, d2, ← hbk, hpr, z1]
            · have h5' : idx3 l.length i j k = false := by simpa using h5
              by_cases a1 : within i 0 (l.length - 1) = true
              · by_cases a2 : within j 0 (l.length - 1) = true
                · have a3 : within k 0 (l.length - 1) = false := by simpa [idx3, a1, a2] using h5'
                  simp [ef58, r, hb, s, c91 (l := l), hd, u1, u2, wpI_step, E_fuel, St.tidy, c64 r1, c64 r2, c64 r3, h1, h2, h3, c115 sN sD pN pD eN eD, r1, r2, r3, d1, d2, d3, h4, w1, c77, a1, a2, a3, lineE, f3, h5']
                · simp only [Bool.not_eq_true] at a2
                  simp [ef58, r, hb, s, c91 (l := l), hd, u1, u2, wpI_step, E_fuel, St.tidy, c64 r1, c64 r2, c64 r3, h1, h2, h3, c115 sN sD pN pD eN eD, r1, r2, r3, d1, d2, d3, h4, w1, c77, a1, a2, lineE, f3, h5']
              · simp only [Bool.not_eq_true] at a1
                simp [ef58, r, hb, s, c91 (l := l), hd, u1, u2, wpI_step, E_fuel, St.tidy, c64 r1, c64 r2, c64 r3, h1, h2, h3, c115 sN sD pN pD eN eD, r1, r2, r3, d1, d2, d3, h4, w1, c77, a1, lineE, f3, h5']
          · simp [ef58, r, hb, s, c91 (l := l), hd, u1, u2, wpI_step, E_fuel, St.tidy, c64 r1, c64 r2, c64 r3, h1, h2, h3, c115 sN sD pN pD eN eD, r1, r2, r3, d1, d2, d3, h4, lineE, f3]
        · simp [ef58, r, hb, s, c91 (l := l), hd, u1, wpI_step, E_fuel, St.tidy, c64 r1, c64 r2, c64 r3, h1, h2, h3, lineE, f3]
      · simp [ef58, r, hb, s, c91 (l := l), hd, u1, wpI_step, E_fuel, St.tidy, c64 r1, c64 r2, h1, h2, lineE, f3]
    · simp [ef58, r, hb, s, c91 (l := l), hd, u1, wpI_step, E_fuel, St.tidy, c64 r1, h1, lineE, f3]
  · simp [ef58, r, c91 (l := l), s, hd, lineE]
end Go.Abs.N
