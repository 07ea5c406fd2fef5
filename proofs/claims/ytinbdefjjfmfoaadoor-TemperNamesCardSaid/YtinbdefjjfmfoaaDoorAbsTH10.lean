/- The law TemperNames. -/
import Derived.Test.YtinbdefjjfmfoaaDoorAbsTH9
set_option linter.unusedSimpArgs false
set_option linter.unusedVariables false
namespace Go.Abs
namespace T
set_option maxRecDepth 100000
set_option maxHeartbeats 0
theorem Tm.per {C : List Value} {nm : ByteArray} {P S : Nat → Int} (t : Tm C nm P S) : Tm C nm (fun i => P (i % 12)) (fun i => S (i % 12)) :=
  ⟨t.len, t.name, fun i hi => by rw [t.p i hi]; simp only [Nat.mod_eq_of_lt hi], fun i hi => by rw [t.s i hi]; simp only [Nat.mod_eq_of_lt hi]⟩
theorem rot_back (P : Nat → Int) {f : Nat} (hf : f < 12) : rotF (rotF (fun i => P (i % 12)) f) ((12 - f) % 12) = fun i => P (i % 12) := by
  funext i
  unfold rotF
  have : ((i + (12 - f) % 12) % 12 + f) % 12 % 12 = i % 12 := by omega
  simp only [this]
theorem law12 (lim : Nat) {h : Heap} (A : AwOk h) {C : List Value} {nm : ByteArray} {P' S' : Nat → Int} {name : ByteArray} {n : Int} (t' : Tm C nm P' S') (hn : R64 n) :
    E.call 21 lim 12 [.string name, .agg C.toArray, i64 n] h = some (.bool true, h) := by
  have a1 := A
  unfold AwOk at a1
  have t := t'.per
  obtain ⟨P, hP⟩ : ∃ P, P = fun i => P' (i % 12) := ⟨_, rfl⟩
  obtain ⟨S, hS⟩ : ∃ S, S = fun i => S' (i % 12) := ⟨_, rfl⟩
  rw [← hP, ← hS] at t
  have k20 := fun lim hh => c20 (d := 19) (lim := lim) (h := hh) t
  have k23 := fun lim hh => c23 (d := 15) (lim := lim) (h := hh) t
  obtain ⟨X, b, N⟩ := named name
  obtain ⟨nX, PX, SX, tX⟩ := N.tm
  have k57 := N.c57 18
  have k58 := N.c58 19
  have x1 := tX.same
  have x2 := tX.spl
  simp only [zT] at x2
  have y2 := t.spl
  simp only [zT] at y2
  have y1 := t.same
  have c60 := fun lim hh n => c60 (d := 19) (lim := lim) (h := hh) (a := n) (b := 0) (c := 11)
  refine call1 fn12 rfl (by simp [ef12]) ?_
  by_cases hz : name.size ≤ 30
  · by_cases hs : nm.size ≤ 30
    · by_cases h0 : chkT nm P S = 0
      · have hin := okt h0
        by_cases hc : isClass n = true
        · obtain ⟨f, rfl, hf⟩ := isClass_nat hc
          have k59 := fun lim hh => c59 (d := 14) (lim := lim) (h := hh) t (by omega) h0 hf
          have k61 := fun lim hh => c61 (d := 18) (lim := lim) (h := hh) t hf
          have tr := rotK_tm nm P S f
          have k23' := fun lim hh => c23 (d := 15) (lim := lim) (h := hh) tr
          have hw : within (f : Int) 0 11 = true := hc
          by_cases hr : chkT nm (rotF P f) (rotF S f) = 0
          · rw [if_pos hr, hr] at k59
            rw [hr] at k23'
            have hg : (12 - f) % 12 < 12 := by omega
            have kb := fun lim hh => c59 (d := 14) (lim := lim) (h := hh) tr (by omega) hr hg
            have tb := rotK_tm nm (rotF P f) (rotF S f) ((12 - f) % 12)
            have eP : rotF (rotF P f) ((12 - f) % 12) = P := by rw [hP]; exact rot_back P' hf
            have eS : rotF (rotF S f) ((12 - f) % 12) = S := by rw [hS]; exact rot_back S' hf
            rw [eP, eS] at kb tb
            have eB := tb.ext t (fun _ _ => rfl) (fun _ _ => rfl)
            rw [eB, if_pos h0, h0] at kb
            have w12 : IntKind.wrap .i64 (12 - (f : Int)) = ((12 - f : Nat) : Int) := by rw [wrap_eq (by omega) (by omega)]; omega
            have q12 := qm12 (n := 12 - f)
            have z1 := tr.same
            have z2 := tr.spl
            have z3 := tr.one
            have z4 := tr.no
            have z5 := tr.len
            have z6 := tr.take
            simp only [zT] at z2
            clear eB tb tr hP hS eP eS
            generalize (12 - f) % 12 = g at *
            generalize 12 - f = G at *
            generalize rotK nm P S f 12 = B at *
            cases b
            · have := N.no rfl
              subst this
              simp only [zT] at k57 k58
              simp [ef12, a1, hz, Int.not_lt.2 (show ((name.size : Nat) : Int) ≤ 30 by omega), k20, hs, t.len, t.take, k57, k58, k23, k59, h0, c60, hw, k61, k23', z1, z2, z3, z4, z5, z6, w12, q12, kb, t.one, t.no, y1, y2]
            · have k51 := N.ok rfl 16
              simp [ef12, a1, hz, Int.not_lt.2 (show ((name.size : Nat) : Int) ≤ 30 by omega), k20, hs, t.len, t.take, k57, k58, tX.len, tX.take, tX.one, tX.no, x1, x2, k51, k23, k59, h0, c60, hw, k61, k23', z1, z2, z3, z4, z5, z6, w12, q12, kb, t.one, t.no, y1, y2]
          · rw [if_neg hr] at k59
            simp only [zT] at k59
            cases b
            · have := N.no rfl
              subst this
              simp only [zT] at k57 k58
              simp [ef12, a1, hz, Int.not_lt.2 (show ((name.size : Nat) : Int) ≤ 30 by omega), k20, hs, t.len, t.take, k57, k58, k23, k59, h0, c60, hw, k61, k23', hr]
            · have k51 := N.ok rfl 16
              simp [ef12, a1, hz, Int.not_lt.2 (show ((name.size : Nat) : Int) ≤ 30 by omega), k20, hs, t.len, t.take, k57, k58, tX.len, tX.take, tX.one, tX.no, x1, x2, k51, k23, k59, h0, c60, hw, k61, k23', hr]
        · simp only [Bool.not_eq_true] at hc
          have hw : within n 0 11 = false := hc
          have k59 := fun lim hh => c59o (d := 14) (lim := lim) (h := hh) (n := n) t (by omega) h0 hc
          simp only [zT] at k59
          cases b
          · have := N.no rfl
            subst this
            simp only [zT] at k57 k58
            simp [ef12, a1, hz, Int.not_lt.2 (show ((name.size : Nat) : Int) ≤ 30 by omega), k20, hs, t.len, t.take, k57, k58, k23, k59, h0, c60, hw]
          · have k51 := N.ok rfl 16
            simp [ef12, a1, hz, Int.not_lt.2 (show ((name.size : Nat) : Int) ≤ 30 by omega), k20, hs, t.len, t.take, k57, k58, tX.len, tX.take, tX.one, tX.no, x1, x2, k51, k23, k59, h0, c60, hw]
      · have k59 := fun lim hh => c59e (d := 14) (lim := lim) (h := hh) (n := n) t (by omega) h0
        simp only [zT] at k59
        cases b
        · have := N.no rfl
          subst this
          simp only [zT] at k57 k58
          simp [ef12, a1, hz, Int.not_lt.2 (show ((name.size : Nat) : Int) ≤ 30 by omega), k20, hs, t.len, t.take, k57, k58, k23, k59, h0]
        · have k51 := N.ok rfl 16
          simp [ef12, a1, hz, Int.not_lt.2 (show ((name.size : Nat) : Int) ≤ 30 by omega), k20, hs, t.len, t.take, k57, k58, tX.len, tX.take, tX.one, tX.no, x1, x2, k51, k23, k59, h0]
    · simp [ef12, a1, hz, Int.not_lt.2 (show ((name.size : Nat) : Int) ≤ 30 by omega), k20, hs, t.len, t.take]
  · simp [ef12, a1, show (30 : Int) < ((name.size : Nat) : Int) by omega]
theorem temperNames_law : ∀ (bs : List (Option Blk)) us, Heap.freeze ([primesB] ++ bs) = [primesB] ++ bs → (∀ n, ctBlocks (([(false, [.str]), ctT, (false, [ctI])] : List (Bool × List CT)).flatMap (·.2)) = some n → bs.length = n) →
    ArgsV 6 ([primesB] ++ bs) [(false, [.str]), ctT, (false, [ctI])] us → ∃ h', E.call 21 (([primesB] : Heap) ++ bs).length 12 us ([primesB] ++ bs) = some (.bool true, h') := by
  intro bs us _ k a
  obtain ⟨u, v, w, rfl, a1, a2, a3⟩ := args3 a
  obtain ⟨nm, rfl, _⟩ := arg_str a1
  obtain ⟨C, nm, P, S, rfl, t, _⟩ := arg_tm a2
  obtain ⟨_, rfl, r⟩ := arg_int a3
  exact ⟨_, law12 _ (awOk bs) t r⟩
end T
end Go.Abs
