/- The law NumberOctaves. -/
import Derived.Test.YtjalhpdmdiimoaaDoorAbsNB16
set_option linter.unusedSimpArgs false
set_option linter.unusedVariables false
namespace Go.Abs
namespace N
set_option maxRecDepth 100000
set_option maxHeartbeats 0
theorem R4_Rb {x : Int} (h : -400 ≤ x ∧ x ≤ 400) : Rb x := ⟨by omega, by omega⟩
theorem Dn_Rb {x : Int} (h : Dn x) : Rb x := ⟨by have := h.1; omega, by have := h.2; omega⟩
theorem isPitch_mk {a b c e : Int} (ha : -400 ≤ a ∧ a ≤ 400) (hb : -400 ≤ b ∧ b ≤ 400) (hc : -400 ≤ c ∧ c ≤ 400) (he : Dn e) : isPitch a b c e = true := by
  have := he.1; have := he.2
  simp [isPitch, within]; omega
theorem isPitch_red {a b c e : Int} (h : isPitch a b c e = true) : isPitch (red a b c e a) (red a b c e b) (red a b c e c) (red a b c e e) = true := by
  obtain ⟨r1, r2, r3, r4⟩ := isPitch_R h
  have d := rG_dvd a b c e
  have hp := red_pos (R4_Rb r1) (R4_Rb r2) (R4_Rb r3) (Dn_Rb r4) (by omega)
  have l1 := red_le (R4_Rb r1) (R4_Rb r2) (R4_Rb r3) (Dn_Rb r4) (by omega) (R4_Rb r1) d.1 r1
  have l2 := red_le (R4_Rb r1) (R4_Rb r2) (R4_Rb r3) (Dn_Rb r4) (by omega) (R4_Rb r2) d.2.1 r2
  have l3 := red_le (R4_Rb r1) (R4_Rb r2) (R4_Rb r3) (Dn_Rb r4) (by omega) (R4_Rb r3) d.2.2.1 r3
  have l4 := red_le (M := 12) (R4_Rb r1) (R4_Rb r2) (R4_Rb r3) (Dn_Rb r4) (by omega) (Dn_Rb r4) d.2.2.2 (by omega)
  exact isPitch_mk l1 l2 l3 ⟨by omega, by omega⟩
theorem c70b {d lim : Nat} {h : Heap} {a b c e : Int} (h1 : isPitch a b c e = false) : E.call (d + 6) lim 70 [pt a b c e] h = some (.tuple #[pt 0 0 0 0, i64 0, i64 2], h) := by
  have k1 : checkPitch a b c e = 2 := by simp [checkPitch, h1]
  refine call1 fn70 rfl (by simp [ef70]) ?_
  simp [ef70, c51, k1]
theorem law16 (lim : Nat) {a b c e : Int} : E.call 21 lim 16 [pt a b c e] [primesB] = some (.bool true, [primesB]) := by
  refine call1 fn16 rfl (by simp [ef16]) ?_
  have hf : Heap.freeze [primesB] = [primesB] := rfl
  by_cases n1 : near a b c = true
  · by_cases h1 : isPitch a b c e = true
    · obtain ⟨ra, rb, rc, re⟩ := near_R h1 n1
      obtain ⟨r1, r2, r3, r4⟩ := isPitch_R h1
      obtain ⟨T, t1, t2, hP⟩ := octT a b c e re.1
      have ml := most_le ra rb rc re
      have k70 := fun lim L => c70 (d := 14) (lim := lim) (sp1 L) h1 n1 (T := T) (by omega) hP
      have k71 := fun lim hh => c71 (d := 15) (lim := lim) (h := hh) h1 n1 ⟨t1, t2⟩ hP
      by_cases ok : octOk a b c e T = true
      · have v := fitP_ok ok
        have tb : -4800 ≤ T * e ∧ T * e ≤ 4800 := mul_400 (by omega) re
        have bA : Rb (a - T * e) := ⟨by omega, by omega⟩
        have d := rG_dvd (a - T * e) b c e
        have e0 : 0 < e := by have := re.1; omega
        have oA := ordE_red bA (R4_Rb r2) (R4_Rb r3) (Dn_Rb re) e0
        obtain ⟨_, m1, _⟩ := red_eq bA (R4_Rb r2) (R4_Rb r3) (Dn_Rb re) e0 bA d.1
        obtain ⟨_, m2, _⟩ := red_eq bA (R4_Rb r2) (R4_Rb r3) (Dn_Rb re) e0 (R4_Rb r2) d.2.1
        obtain ⟨_, m3, _⟩ := red_eq bA (R4_Rb r2) (R4_Rb r3) (Dn_Rb re) e0 (R4_Rb r3) d.2.2.1
        obtain ⟨_, m4, _⟩ := red_eq bA (R4_Rb r2) (R4_Rb r3) (Dn_Rb re) e0 (Dn_Rb re) d.2.2.2
        have gp := rG_pos (a := a - T * e) (b := b) (c := c) e0
        have v0 := isPitch_mk (a := 0) (b := 0) (c := 0) (e := 1) (by omega) (by omega) (by omega) ⟨by omega, by omega⟩
        have v1 := isPitch_mk (a := 1) (b := 0) (c := 0) (e := 1) (by omega) (by omega) (by omega) ⟨by omega, by omega⟩
        have vT := isPitch_mk (a := T) (b := 0) (c := 0) (e := 1) (by omega) (by omega) (by omega) ⟨by omega, by omega⟩
        have lo0 : 0 ≤ ordE (a - T * e) b c := (hP T).2 (Int.le_refl T)
        have hi0 : ¬ 0 ≤ ordE (a - (T + 1) * e) b c := fun z => by have := (hP (T + 1)).1 z; omega
        have wT : within T (-400) 400 = true := by simp [within]; omega
        have k49 := fun lim hh => c49 (d := 17) (lim := lim) (h := hh) h1
        simp only [octV, ok, if_true, octR] at k70 k71
        generalize red (a - T * e) b c e (a - T * e) = x at *
        generalize red (a - T * e) b c e b = y at *
        generalize red (a - T * e) b c e c = z at *
        generalize red (a - T * e) b c e e = w at *
        generalize (rG (a - T * e) b c e) = g at *
        obtain ⟨x1, x2, x3, x4⟩ := isPitch_R v
        have q0 := fun lim L => c54 (d := 14) (lim := lim) (sp1 L) v v0 (two_pitch v v0)
        have q1 := fun lim L => c54 (d := 14) (lim := lim) (sp1 L) v v1 (two_pitch v v1)
        have qT := fun lim hh => c50 (d := 16) (lim := lim) (h := hh) v vT
        have T1 : Dn 1 := ⟨by omega, by omega⟩
        have s0 : Sm 0 := ⟨by omega, by omega⟩
        have o0 : ordP x y z w 0 0 0 1 = ordE (a - T * e) b c := by rw [← oA]; unfold ordP; congr 1 <;> omega
        have o1 : ordP x y z w 1 0 0 1 = ordE (a - (T + 1) * e) b c := by
          unfold ordP
          rw [← ordE_scale (g := (g : Int)) (by omega)]
          congr 1
          · grind
          · grind
          · grind
        have j1 : jn x T 1 w 1 = x + T * w := by rw [jn_p (Sm4 x1) (Sm4 (by omega)) x4 T1, Int.mul_one]
        have j2 : jn y 0 1 w 1 = y := by rw [jn_p (Sm4 x2) s0 x4 T1]; omega
        have j3 : jn z 0 1 w 1 = z := by rw [jn_p (Sm4 x3) s0 x4 T1]; omega
        have j4 : IntKind.wrap .i64 (w * 1) = w := by rw [wrap_dn x4 T1, Int.mul_one]
        have tw : -4800 ≤ T * w ∧ T * w ≤ 4800 := mul_400 (by omega) x4
        obtain ⟨i1, i2, i3, i4⟩ := red_ratio (a := x + T * w) (b := y) (c := z) (e := w) (a' := a) (b' := b) (c' := c) (e' := e) ⟨by omega, by omega⟩ (R4_Rb x2) (R4_Rb x3) (Dn_Rb x4) (by omega) (R4_Rb r1) (R4_Rb r2) (R4_Rb r3) (Dn_Rb re) e0
          (by rw [← m4]; grind) (by rw [← m4, ← m2]; grind) (by rw [← m4, ← m3]; grind)
        have vr := isPitch_red h1
        have fT : fitP (x + T * w) y z w = true := by
          unfold fitP; rw [i1, i2, i3, i4]; simp [check0.2 vr]
        simp only [joinF, fitV, j1, j2, j3, j4, fT, if_true, i1, i2, i3, i4] at qT
        simp [ef16, hf, Heap.push, Heap.get, Heap.put, Heap.part, awake1, c19, n1, k70, k71, c21_1 a b c e, check0.2 h1, q0, q1, o0, o1, lo0, hi0, qT, k49, wT, c22]
      · have k70' := k70; have k71' := k71
        simp only [octV, ok] at k70' k71'
        simp [ef16, hf, Heap.push, Heap.get, Heap.put, Heap.part, awake1, c19, n1, k70', k71', c21_1 a b c e, check0.2 h1]
    · have h1' : isPitch a b c e = false := by simpa using h1
      have k1 : checkPitch a b c e = 2 := by simp [checkPitch, h1']
      simp [ef16, hf, Heap.push, Heap.get, Heap.put, Heap.part, awake1, c19, n1, c70b h1', c21_1 a b c e, k1]
  · simp [ef16, hf, Heap.push, Heap.get, Heap.put, Heap.part, awake1, c19, n1]
theorem numberOctaves_law : ∀ (bs : List (Option Blk)) us, Heap.freeze ([primesB] ++ bs) = [primesB] ++ bs → (∀ n, ctBlocks (([(true, [ctI, ctI, ctI, ctI])] : List (Bool × List CT)).flatMap (·.2)) = some n → bs.length = n) →
    ArgsV 6 ([primesB] ++ bs) [(true, [ctI, ctI, ctI, ctI])] us → ∃ h', E.call 21 (([primesB] : Heap) ++ bs).length 16 us ([primesB] ++ bs) = some (.bool true, h') := by
  intro bs us _ k a
  obtain rfl := none_of k rfl
  obtain ⟨u, rfl, a1⟩ := args1 a
  obtain ⟨_, _, _, _, rfl, _⟩ := arg_agg4 a1
  exact ⟨_, law16 _⟩
end N
end Go.Abs
