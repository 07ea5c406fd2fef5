/- Enclose: the program's, whole. -/
import Derived.Test.YtjalhpdmdiimoaaDoorAbsNB18
set_option linter.unusedSimpArgs false
set_option linter.unusedVariables false
namespace Go.Abs
namespace N
set_option maxRecDepth 100000
set_option maxHeartbeats 0
theorem c20b {d lim : Nat} {h : Heap} {a b c e t : Int} (h1 : isPitch a b c e = false) : E.call (d + 5) lim 20 [pt a b c e, i64 t] h = some (rge 0 0 2, h) := by
  have k1 : checkPitch a b c e = 2 := by simp [checkPitch, h1]
  refine call1 fn20 rfl (by simp [ef20]) ?_
  simp [ef20, c51, k1]
theorem c20c {d lim : Nat} {h : Heap} {a b c e t : Int} (h1 : isPitch a b c e = true) (h2 : within t 1 1000000000 = false) : E.call (d + 5) lim 20 [pt a b c e, i64 t] h = some (rge 0 0 2, h) := by
  refine call1 fn20 rfl (by simp [ef20]) ?_
  simp [ef20, c51, check0.2 h1, c77, h2]
theorem midN {l u : Nat} (h : l < u) (hu : u ≤ 1000000000000001) : IntKind.wrap .i64 ((u : Int) - IntKind.wrap .i64 (qdiv (IntKind.wrap .i64 ((u : Int) - l)) 2)) = ((u - (u - l) / 2 : Nat) : Int) := by
  have : qdiv ((u : Int) - l) 2 = ((u : Int) - l) / 2 := by unfold qdiv; rw [Int.tdiv_eq_ediv_of_nonneg (by omega)]
  rw [wrap_eq (n := (u : Int) - l) (by omega) (by omega), this, wrap_eq (n := ((u : Int) - l) / 2) (by omega) (by omega), wrap_eq (by omega) (by omega)]
  omega
theorem c20 {d lim : Nat} {h : Heap} {a b c e : Int} {t L H : Nat} (sp : SlU h (.slice (some ⟨0, 0, none⟩) 3 1) [2, 3, 5]) (h1 : isPitch a b c e = true) (ht : 1 ≤ t ∧ t ≤ 1000000000) (S : EncS a b c e t L H) :
    E.call (d + 5) lim 20 [pt a b c e, i64 t] h = some (rge (smallL L H) (smallH L H) (smallE L H), h) := by
  obtain ⟨r1, r2, r3, r4⟩ := isPitch_R h1
  have vr := isPitch_red h1
  have er := enc_red h1 t
  have k78 := fun lim hh => c78 (d := d + 2) (lim := lim) (h := hh) (a := a) (b := b) (c := c) (e := e) (R64s r1) (R64s r2) (R64s r3) ⟨by omega, by omega⟩ (by omega)
  simp only [redV] at k78
  generalize red a b c e a = x at *
  generalize red a b c e b = y at *
  generalize red a b c e c = z at *
  generalize red a b c e e = w at *
  obtain ⟨x1, x2, x3, x4⟩ := isPitch_R vr
  have R : ∀ {q : Int}, -400 ≤ q ∧ q ≤ 400 → R2 q := fun hq => ⟨by omega, by omega⟩
  have k79 := fun lim L => c79' (d := d) (lim := lim) (h := h.freeze ++ L) ((Sl_freeze.2 sp).app L) (R x1) (R x2) (R x3)
  have sN := numD_spec (a := x) (b := y) (c := z) (by omega) (by omega) (by omega) 3
  have sD := numD_spec (a := -x) (b := -y) (c := -z) (by omega) (by omega) (by omega) 3
  simp only [encP, encQ] at er
  generalize numV x y z 3 = N at *
  generalize numV (-x) (-y) (-z) 3 = D at *
  generalize numD x y z 3 = NL at *
  generalize numD (-x) (-y) (-z) 3 = DL at *
  obtain ⟨P, p1, p2, p3⟩ := c81n (l := NL) (c := N) (b := t) (n := w.toNat) sN.1 (by omega) (by omega) (by omega) (by omega)
  have hw' : ((w.toNat : Nat) : Int) = w := by omega
  rw [hw'] at p3
  have k82 := fun (n lim : Nat) (A : Option Blk) (L' : List (Option Blk)) (hn : 0 < n) (hn2 : n < 18446744073709551616) => c82 (d := d) (lim := lim) (h := h.freeze) (A := A) (L := L') (x := x) (y := y) (z := z) (w := w) (n := n) p1 sD.1 (by omega) (by omega) hn hn2 (by omega)
  simp only [Heap.length_freeze] at k82
  have cmp1 : ∀ n, cmpN (n ^ w.toNat * D) (N * t ^ w.toNat) ≤ 0 ↔ encP a b c e t n := fun n => by
    rw [cmpN_nonpos, Nat.mul_comm N]; exact (er n).1
  have cmp2 : ∀ n, cmpN (n ^ w.toNat * D) (N * t ^ w.toNat) = 0 ↔ encQ a b c e t n := fun n => by
    rw [cmpN_zero, Nat.mul_comm N]; exact (er n).2
  have bt : within (t : Int) 1 1000000000 = true := by simp [within]; omega
  have q81 : ∀ (lim : Nat) (A0 A1 A2 : Option Blk) , E.call (d + 4) lim 81 [.int .u64 (t : Int), i64 w, .slice (some ⟨h.length + 2, 0, none⟩) NL.length 1] (h.freeze ++ [A0, A1, some ⟨cU NL, true⟩, A2, some ⟨[.slice (some ⟨h.length + 2, 0, none⟩) NL.length 1, .slice (some ⟨h.length + 3, 0, none⟩) DL.length 1], true⟩]) =
      some (.slice (some ⟨h.length + 5, 0, none⟩) P.length 1, h.freeze ++ [A0, A1, some ⟨cU NL, true⟩, A2, some ⟨[.slice (some ⟨h.length + 2, 0, none⟩) NL.length 1, .slice (some ⟨h.length + 3, 0, none⟩) DL.length 1], true⟩, some ⟨cU P, true⟩]) := fun lim A0 A1 A2 => by
    have := p3 (d + 1) lim (h.freeze ++ [A0, A1, some ⟨cU NL, true⟩, A2, some ⟨[.slice (some ⟨h.length + 2, 0, none⟩) NL.length 1, .slice (some ⟨h.length + 3, 0, none⟩) DL.length 1], true⟩]) (.slice (some ⟨h.length + 2, 0, none⟩) NL.length 1) (SlU_own (rw := true) (by simp) (by rw [hget_base (by simp)]; rfl))
    simpa using this
  have wt := wrapUn (n := t) (by omega)
  refine call1 fn20 rfl (by simp [ef20]) ?_
  simp [ef20, c51, check0.2 h1, c77, bt, k78, c80, k79, wt, q81]
  refine wpC_loop (fun q st => ∃ l u : Nat, q = u - l ∧ l ≤ L ∧ L ≤ u ∧ u ≤ 1000000000000001 ∧
    st = ⟨[(4, .pointer (some ⟨h.length, 0, none⟩)), (8, .func (.func 82) #[] #[.pointer (some ⟨h.length + 1, 0, none⟩), .pointer (some ⟨h.length + 2, 0, none⟩)]), (9, i64 l), (10, i64 u)],
      h.freeze ++ [some ⟨[i64 0, i64 0], true⟩, some ⟨[i64 x, i64 y, i64 z, i64 w], true⟩, some ⟨[.slice (some ⟨h.length + 3, 0, none⟩) P.length 1, .slice (some ⟨h.length + 4, 0, none⟩) DL.length 1], true⟩, some ⟨cU P, true⟩, some ⟨cU DL, true⟩]⟩) 1000000000000001 (by show 1000000000000001 < 2 ^ 64; decide) ?_ ?_
  · simp [St.tidy]
    exact ⟨0, 1000000000000001, by omega, by omega, S.le, by omega, rfl, rfl⟩
  · rintro q hq _ ⟨l, u, rfl, hl, hu, hu2, rfl⟩
    by_cases hlt : l < u
    · have hm := midN hlt hu2
      have hm1 : l < u - (u - l) / 2 ∧ u - (u - l) / 2 ≤ u := by omega
      generalize u - (u - l) / 2 = m at *
      have k3 := fun lim A L' => k82 m lim A L' (by omega) (by omega)
      have hS := S.iff m (by omega)
      have hc := cmp1 m
      by_cases hs : encP a b c e t m
      · have := hS.1 hs
        have hc' := hc.2 hs
        simp [hlt, hm, k3, hc', St.tidy]
        exact ⟨u - m, by omega, m, u, by omega, by omega, hu, by omega, rfl, rfl⟩
      · have : ¬ m ≤ L := fun z => hs (hS.2 z)
        have hc' : ¬ cmpN (m ^ w.toNat * D) (N * t ^ w.toNat) ≤ 0 := fun z => hs (hc.1 z)
        have wm : IntKind.wrap .i64 ((m : Int) - 1) = ((m - 1 : Nat) : Int) := by rw [wrap_eq (by omega) (by omega)]; omega
        simp [hlt, hm, k3, hc', wm, St.tidy]
        exact ⟨m - 1 - l, by omega, l, m - 1, by omega, hl, by omega, by omega, rfl, rfl⟩
    · have e1 : l = L := by omega
      subst e1
      have wl : IntKind.wrap .i64 ((l : Int) + 1) = ((l + 1 : Nat) : Int) := by rw [wrap_eq (by omega) (by omega)]; omega
      by_cases l0 : l = 0
      · subst l0
        have hq : ¬ encQ a b c e t 0 := by
          unfold encQ; rw [Nat.zero_pow (by omega), Nat.zero_mul]
          have := Nat.mul_pos (Nat.pow_pos (n := e.toNat) (show 0 < t by omega)) (numV_pos a b c)
          omega
        have := S.off hq
        subst this
        simp [hlt, c84]
      · have l0' : 0 < l := by omega
        have k3 := fun lim A L' => k82 l lim A L' l0' (by omega)
        by_cases hs : encQ a b c e t l
        · have := S.on hs
          subst this
          have hc' := (cmp2 H).2 hs
          simp [hlt, l0, k3, hc', c84]
        · have := S.off hs
          subst this
          have hc' : ¬ cmpN (l ^ w.toNat * D) (N * t ^ w.toNat) = 0 := fun z => hs ((cmp2 l).1 z)
          simp [hlt, l0, k3, hc', wl, c84]
end N
end Go.Abs
