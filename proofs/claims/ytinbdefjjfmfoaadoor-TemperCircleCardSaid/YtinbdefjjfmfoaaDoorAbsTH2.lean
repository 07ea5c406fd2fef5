/- The law TemperCircle. -/
import Derived.Test.YtinbdefjjfmfoaaDoorAbsTH1
set_option linter.unusedSimpArgs false
set_option linter.unusedVariables false
namespace Go.Abs
namespace T
set_option maxRecDepth 100000
set_option maxHeartbeats 0
theorem clsV_ok' {nm : ByteArray} {P S : Nat → Int} {n : Int} {x : X3} (h : chkT nm P S = 0) (h1 : isClass n = true) : clsV nm P S n x = (pit x, 0) := by simp [clsV, h, h1]
theorem pit_oct : pit (-12, 0, 0) = pt (-1) 0 0 1 := by kernel_rfl
theorem pit_one : pit (0, 0, 0) = pt 0 0 0 1 := by kernel_rfl
theorem isClass_mk {n : Nat} (h : n < 12) : isClass (n : Int) = true := by simp [isClass, within]; omega
def PitIs (x : X3) (a b c e : Int) : Prop := pit x = pt a b c e
theorem law11 (lim : Nat) {h : Heap} (A : AwOk h) {C : List Value} {nm : ByteArray} {P S : Nat → Int} (t : Tm C nm P S) :
    E.call 21 lim 11 [.agg C.toArray] h = some (.bool true, h) := by
  have a1 := A
  unfold AwOk at a1
  have k20 := fun lim hh => c20 (d := 19) (lim := lim) (h := hh) t
  refine call1 fn11 rfl (by simp [ef11]) ?_
  by_cases hs : nm.size ≤ 30
  · have k51 := fun lim hh => c51 (d := 16) (lim := lim) (h := hh) t (by omega)
    by_cases h0 : chkT nm P S = 0
    · obtain ⟨o, _⟩ := okt h0
      have k42 := fun lim hh n => c42 (d := 14) (lim := lim) (h := hh) (n := n) t (by omega)
      have k44 := fun lim hh n => c44 (d := 14) (lim := lim) (h := hh) (n := n) t (by omega)
      simp [ef11, a1, k20, hs, t.len, t.take, k51, h0]
      refine wpC_loop (fun q st => ∃ (i : Nat) (a b c e : Int), q = 12 - i ∧ i ≤ 12 ∧ PitIs (reaZ P S i) a b c e ∧ st = ⟨[(1, .pointer (some ⟨h.length, 0, none⟩)), (3, .pointer (some ⟨h.length + 1, 0, none⟩)), (4, i64 ((7 * i / 12 : Nat) : Int)), (5, i64 i)],
        h.freeze ++ [some ⟨C, true⟩, some ⟨[i64 a, i64 b, i64 c, i64 e], true⟩]⟩) 12 (by show 12 < 2 ^ 64; omega) ?_ ?_
      · simp [St.tidy, t.plain]
        exact ⟨0, by omega, by omega, 0, 0, 0, 1, by unfold PitIs; rw [rea0, pit_one], by omega, rfl, rfl, rfl, rfl⟩
      · rintro q hq _ ⟨i, a, b, c, e, rfl, hi, hp, rfl⟩
        unfold PitIs at hp
        by_cases hlt : i < 12
        · have h4 : (i : Int) < 12 := by omega
          have w1' := w1 (i := i) (by omega)
          have e7 : IntKind.wrap .i64 (7 * ((i + 1 : Nat) : Int)) = ((7 * (i + 1) : Nat) : Int) := by rw [← wN (n := 7 * (i + 1)) (by omega)]; rfl
          have e8 : IntKind.wrap .i64 (7 * (i : Int)) = ((7 * i : Nat) : Int) := by rw [← wN (n := 7 * i) (by omega)]; rfl
          have d1 := qd12 (n := 7 * (i + 1))
          have d2 := qd12 (n := 7 * i)
          have m1 := qm12 (n := 7 * (i + 1))
          have dw1 := wN (n := 7 * (i + 1) / 12) (by omega)
          have dw2 := wN (n := 7 * i / 12) (by omega)
          have hc := fun lim hh => k42 lim hh i
          rw [clsV_ok' h0 (isClass_mk hlt), Int.toNat_natCast] at hc
          have hcl := fun lim hh => k44 lim hh ((7 * (i + 1) % 12 : Nat) : Int)
          rw [clsV_ok' h0 (isClass_mk (by omega)), Int.toNat_natCast, ← rea_cls' o (i := i + 1) (by omega)] at hcl
          have rs := rea_succ P S i
          have fe := (fifX_eq (o.p i hlt) (o.s i hlt)).1
          have s1 := rea_small o (i := i) (by omega)
          have s2 := rea_small o (i := i + 1) (by omega)
          obtain ⟨f1, f2, f3, f4, hf⟩ := pit_pt (fifX (P i) (S i))
          obtain ⟨r1, r2, r3, r4, hr⟩ := pit_pt (reaZ P S (i + 1))
          have p0 := (isP_mk (x := reaZ P S i) (by omega) (by omega) (by omega)).1
          have p1 := (isP_mk (x := reaZ P S (i + 1)) (by omega) (by omega) (by omega)).1
          have pf := (fif_ok o hlt).1
          have pm : isP (addZ (reaZ P S i) 1 (fifZ (P i) (S i))) = true := by
            rw [rs]
            refine (isP_mk ?_ ?_ ?_).1
            · simp only [addZ, octX]; omega
            · simp only [addZ, octX]; omega
            · simp only [addZ, octX]; omega
          have j1 := fun lim hh => join_pit (d := 16) (lim := lim) (h := hh) p0 pf pm (by rw [fe])
          rw [hp, hf] at j1
          rw [hf] at hc
          rw [hr] at hcl
          by_cases hg : 7 * i / 12 < 7 * (i + 1) / 12
          · have hg' : ((7 * i / 12 : Nat) : Int) < ((7 * (i + 1) / 12 : Nat) : Int) := by omega
            have dd : ((7 * i / 12 : Nat) : Int) + 1 = ((7 * (i + 1) / 12 : Nat) : Int) := by omega
            obtain ⟨u1, u2, u3, u4, hu⟩ := pit_pt (addZ (reaZ P S i) 1 (fifZ (P i) (S i)))
            rw [hu] at j1
            have j2 := fun lim hh => join_pit (d := 16) (lim := lim) (h := hh) pm (y := (-12, 0, 0)) (by decide) p1 (by
              rw [rs]; simp only [addZ, octX]; refine Prod.ext ?_ (Prod.ext ?_ ?_) <;> simp only <;> omega)
            rw [hu, pit_oct, hr] at j2
            have wd : IntKind.wrap .i64 (((7 * i / 12 : Nat) : Int) + 1) = ((7 * (i + 1) / 12 : Nat) : Int) := by rw [dd]; exact dw1
            clear s1 s2 rs pm p0 p1 pf fe
            generalize hI : i + 1 = I1 at *
            generalize hD : 7 * I1 / 12 = D at *
            generalize 7 * I1 % 12 = M at *
            generalize hN : 7 * I1 = N at *
            generalize 7 * i / 12 = D' at *
            generalize 7 * i = N' at *
            simp only [W] at w1' dw1 dw2
            simp [h4, Int.not_le.2 h4, t.len, t.take, t.plain, hc, j1, j2, hcl, w1', e7, e8, d1, d2, m1, dw1, dw2, hg', wd, St.tidy]
            exact ⟨12 - I1, by omega, I1, rfl, by omega, r1, r2, r3, r4, hr, ⟨by omega, rfl⟩, rfl, rfl, rfl, rfl⟩
          · have hg' : ¬ ((7 * i / 12 : Nat) : Int) < ((7 * (i + 1) / 12 : Nat) : Int) := by omega
            have dd : 7 * i / 12 = 7 * (i + 1) / 12 := by omega
            have me : addZ (reaZ P S i) 1 (fifZ (P i) (S i)) = reaZ P S (i + 1) := by
              rw [rs]; simp only [addZ, octX]; refine Prod.ext ?_ (Prod.ext ?_ ?_) <;> simp only <;> omega
            rw [me, hr] at j1
            clear s1 s2 rs pm p0 p1 pf fe me
            generalize hI : i + 1 = I1 at *
            generalize hD : 7 * I1 / 12 = D at *
            generalize 7 * I1 % 12 = M at *
            generalize hN : 7 * I1 = N at *
            generalize 7 * i / 12 = D' at *
            generalize 7 * i = N' at *
            subst dd
            simp only [W] at w1' dw1 dw2
            simp [h4, t.len, t.take, t.plain, hc, j1, hcl, w1', e7, e8, d1, d2, m1, dw1, dw2, St.tidy]
            exact ⟨12 - I1, by omega, I1, rfl, by omega, r1, r2, r3, r4, hr, ⟨by omega, rfl⟩, rfl, rfl, rfl, rfl⟩
        · obtain rfl : i = 12 := by omega
          rw [rea12 o, pit_one] at hp
          simp at hp
          obtain ⟨rfl, rfl, rfl, rfl⟩ := hp
          simp
    · simp [ef11, a1, k20, hs, t.len, t.take, k51, h0]
  · simp [ef11, a1, k20, hs, t.len, t.take]
theorem temperCircle_law : ∀ (bs : List (Option Blk)) us, Heap.freeze ([primesB] ++ bs) = [primesB] ++ bs → (∀ n, ctBlocks (([ctT] : List (Bool × List CT)).flatMap (·.2)) = some n → bs.length = n) →
    ArgsV 6 ([primesB] ++ bs) [ctT] us → ∃ h', E.call 21 (([primesB] : Heap) ++ bs).length 11 us ([primesB] ++ bs) = some (.bool true, h') := by
  intro bs us _ k a
  obtain ⟨u, rfl, a1⟩ := args1 a
  obtain ⟨C, nm, P, S, rfl, t, _⟩ := arg_tm a1
  exact ⟨_, law11 _ (awOk bs) t⟩
end T
end Go.Abs
