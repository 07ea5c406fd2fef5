/- The law NumberEncloses. -/
import Derived.Test.YtjalhpdmdiimoaaDoorAbsNB20
set_option linter.unusedSimpArgs false
set_option linter.unusedVariables false
namespace Go.Abs
namespace N
set_option maxRecDepth 100000
set_option maxHeartbeats 0
theorem EncS.lt {a b c e : Int} {t L H : Nat} (S : EncS a b c e t L H) : L ≤ H ∧ H ≤ L + 1 := by
  by_cases q : encQ a b c e t L
  · have := S.on q; omega
  · have := S.off q; omega
theorem small_eq {L H : Nat} (h : L ≤ H) : smallL L H = (if H ≤ 1000000000000000 then (L : Int) else 0) ∧ smallH L H = (if H ≤ 1000000000000000 then (H : Int) else 0) ∧ smallE L H = (if H ≤ 1000000000000000 then 0 else 8) := by
  have : checkRange L H = 0 ↔ H ≤ 1000000000000000 := by
    unfold checkRange within
    by_cases q : H ≤ 1000000000000000
    · have h1 : ¬ (H : Int) < L := by omega
      simp [q, h1]; omega
    · have h2 : ¬ (H : Int) ≤ 1000000000000000 := by omega
      simp [q, h2]
  unfold smallL smallH smallE
  simp only [this, and_self]
theorem law3 (lim : Nat) {a b c e t : Int} : E.call 21 lim 3 [pt a b c e, i64 t] [primesB] = some (.bool true, [primesB]) := by
  refine call1 fn3 rfl (by simp [ef3]) ?_
  have hf : Heap.freeze [primesB] = [primesB] := rfl
  by_cases n1 : near a b c = true
  · by_cases h1 : isPitch a b c e = true
    · by_cases h2 : within t 1 1000000000 = true
      · have ht : 1 ≤ t ∧ t ≤ 1000000000 := by simpa [within] using h2
        obtain ⟨n, rfl⟩ : ∃ n : Nat, t = n := ⟨t.toNat, by omega⟩
        obtain ⟨L, H, S⟩ := encS a b c e (isPitch_R h1).2.2.2.1 n
        have k20 := fun lim l => c20 (d := 15) (lim := lim) (sp1 l) h1 (by omega) S
        have k23 := fun lim hh => c23 (d := 16) (lim := lim) (h := hh) h1 (by omega) S
        have lt := S.lt
        obtain ⟨s1, s2, s3⟩ := small_eq lt.1
        rw [s1, s2, s3] at k20
        have wd : within (IntKind.wrap .i64 ((H : Int) - L)) 0 1 = true := by
          have := S.le
          rw [wrap_eq (by omega) (by omega)]; simp [within]; omega
        have w0 : within 0 0 1 = true := by decide
        have wz : IntKind.wrap .i64 0 = 0 := by decide
        by_cases hH : H ≤ 1000000000000000
        · simp only [hH, if_true] at k20 k23
          simp [ef3, hf, Heap.push, Heap.get, Heap.put, Heap.part, Heap.cell, awake1, c19, n1, k20, k23, c21_1 a b c e, check0.2 h1, c22, h2, wd, w0]
        · simp only [hH, if_false] at k20 k23
          simp [ef3, hf, Heap.push, Heap.get, Heap.put, Heap.part, Heap.cell, awake1, c19, n1, k20, k23, c21_1 a b c e, check0.2 h1, c22, h2, w0, wz]
      · have h2' : within t 1 1000000000 = false := by simpa using h2
        simp [ef3, hf, Heap.push, Heap.get, Heap.put, Heap.part, awake1, c19, n1, c20c h1 h2', c21_1 a b c e, check0.2 h1, c22, h2']
    · have h1' : isPitch a b c e = false := by simpa using h1
      have k1 : checkPitch a b c e = 2 := by simp [checkPitch, h1']
      simp [ef3, hf, Heap.push, Heap.get, Heap.put, Heap.part, awake1, c19, n1, c20b h1', c21_1 a b c e, k1, c22]
  · simp [ef3, hf, Heap.push, Heap.get, Heap.put, Heap.part, awake1, c19, n1]
theorem numberEncloses_law : ∀ (bs : List (Option Blk)) us, Heap.freeze ([primesB] ++ bs) = [primesB] ++ bs → (∀ n, ctBlocks (([(true, [ctI, ctI, ctI, ctI]), (false, [ctI])] : List (Bool × List CT)).flatMap (·.2)) = some n → bs.length = n) →
    ArgsV 6 ([primesB] ++ bs) [(true, [ctI, ctI, ctI, ctI]), (false, [ctI])] us → ∃ h', E.call 21 (([primesB] : Heap) ++ bs).length 3 us ([primesB] ++ bs) = some (.bool true, h') := by
  intro bs us _ k a
  obtain rfl := none_of k rfl
  obtain ⟨u, v, rfl, a1, a2⟩ := args2 a
  obtain ⟨_, _, _, _, rfl, _⟩ := arg_agg4 a1
  obtain ⟨_, rfl, _⟩ := arg_int a2
  exact ⟨_, law3 _⟩
end N
end Go.Abs
