/- The law TemperCompares. -/
import Derived.Test.YtinbdefjjfmfoaaDoorAbsTH13
set_option linter.unusedSimpArgs false
set_option linter.unusedVariables false
namespace Go.Abs
namespace T
set_option maxRecDepth 100000
set_option maxHeartbeats 0
theorem SlI_own {h : Heap} {b n : Nat} {l : List Int} {rw : Bool} (e : h.get b = some ⟨cI l, rw⟩) (hn : n = l.length) : SlI h (.slice (some ⟨b, 0, none⟩) n 1) l := by
  subst hn
  exact ⟨rfl, by simp [cI], fun _ => rfl, .inr ⟨b, 0, l.length, 1, rfl, Heap.get_lt e⟩, fun k _ => by simp only [slB_some, slO_some, Nat.zero_add]; rw [cell_get e]⟩
theorem law16 (lim : Nat) {h : Heap} (A : AwOk h) (sp : SlU h (.slice (some ⟨0, 0, none⟩) 3 1) [2, 3, 5]) {C C' : List Value} {nm nm' : ByteArray} {P S P' S' : Nat → Int} (t : Tm C nm P S) (t' : Tm C' nm' P' S') :
    E.call 21 lim 16 [.agg C.toArray, .agg C'.toArray] h = some (.bool true, h) := by
  have a1 := A
  unfold AwOk at a1
  have k20 := fun lim hh => c20 (d := 19) (lim := lim) (h := hh) t
  have k20' := fun lim hh => c20 (d := 19) (lim := lim) (h := hh) t'
  have k23 := fun lim hh => c23 (d := 15) (lim := lim) (h := hh) t
  have k23' := fun lim hh => c23 (d := 15) (lim := lim) (h := hh) t'
  have sp2 : ∀ L, SlU (h.freeze ++ L) (.slice (some ⟨0, 0, none⟩) 3 1) [2, 3, 5] := fun L => (Sl_freeze.2 sp).app L
  refine call1 fn16 rfl (by simp [ef16]) ?_
  by_cases hs : nm.size ≤ 30
  · by_cases hs' : nm'.size ≤ 30
    · by_cases h0 : chkT nm P S = 0
      · obtain ⟨o, _⟩ := okt h0
        have k71 := fun lim L => c71 (d := 12) (lim := lim) (sp2 L) t (by omega) h0
        have k72 := fun lim L => c72 (d := 12) (lim := lim) (sp2 L) t (by omega) h0
        have k74 := fun lim hh => c74 (d := 14) (lim := lim) (h := hh) t o
        have k75 := fun lim hh => c75 (d := 14) (lim := lim) (h := hh) t o
        have kaa := fun lim L => c73 (d := 12) (lim := lim) (sp2 L) t (by omega) t (by omega) h0 h0
        by_cases h0' : chkT nm' P' S' = 0
        · obtain ⟨o', _⟩ := okt h0'
          have k73 := fun lim L => c73 (d := 12) (lim := lim) (sp2 L) t (by omega) t' (by omega) h0 h0'
          have k77 := fun lim hh => c77 (d := 14) (lim := lim) (h := hh) t t' o o'
          have ln := agL_len P S P' S' 12
          have ls := agL_len P S P S 12
          have es := agL_self P S 12
          generalize agL P S P' S' 12 = X at *
          generalize agL P S P S 12 = Y at *
          have g1 : ∀ Q : List (Option Blk), Heap.get (h.freeze ++ ([some ⟨C, true⟩, some ⟨C', true⟩, some ⟨cI X, true⟩, some ⟨cI Y, true⟩, some ⟨cI X, true⟩] ++ Q)) (h.length + 2) = some ⟨cI X, true⟩ := fun Q => by rw [hget_base (by simp)]; rfl
          have g2 : ∀ Q : List (Option Blk), Heap.get (h.freeze ++ ([some ⟨C, true⟩, some ⟨C', true⟩, some ⟨cI X, true⟩, some ⟨cI Y, true⟩, some ⟨cI X, true⟩] ++ Q)) (h.length + 4) = some ⟨cI X, true⟩ := fun Q => by rw [hget_base (by simp)]; rfl
          have g3 : ∀ Q : List (Option Blk), Heap.get (h.freeze ++ ([some ⟨C, true⟩, some ⟨C', true⟩, some ⟨cI X, true⟩, some ⟨cI Y, true⟩, some ⟨cI X, true⟩] ++ Q)) (h.length + 3) = some ⟨cI Y, true⟩ := fun Q => by rw [hget_base (by simp)]; rfl
          have k76 := fun lim Q => c76 (d := 19) (lim := lim) (SlI_own (g1 Q) (n := 12) ln.symm) (SlI_own (g2 Q) (n := 12) ln.symm) (by rw [ln]; omega)
          have ez : zeros [Value.int .i64 0] 12 = cI Y := by rw [es]; rfl
          have g4 : Heap.get (h.freeze ++ ([some ⟨C, true⟩, some ⟨C', true⟩, some ⟨cI X, true⟩, some ⟨cI Y, true⟩, some ⟨cI X, true⟩] ++ [some ⟨cI Y, true⟩])) (h.length + 5) = some ⟨cI Y, true⟩ := by rw [hget_base (by simp)]; rfl
          have k76' := fun lim => c76 (d := 19) (lim := lim) (SlI_own (g3 [some ⟨cI Y, true⟩]) (n := 12) ls.symm) (SlI_own g4 (n := 12) ls.symm) (by rw [ls]; omega)
          simp at k76'
          simp at k76
          simp [ef16, a1, k20, k20', hs, hs', t.len, t.take, t'.len, t'.take, k71, k72, k73, k23, h0, k74, k75, k23', h0', kaa, k77, k76, maxLen, ez, k76']
        · have e : errA nm nm' P S P' S' = chkT nm' P' S' := by simp [errA, h0]
          have k73 := fun lim hh => c73e (d := 14) (lim := lim) (h := hh) t (by omega) t' (by omega) (by rw [e]; exact h0')
          rw [e] at k73
          simp [ef16, a1, k20, k20', hs, hs', t.len, t.take, t'.len, t'.take, k71, k72, k73, k23, h0, k74, k75, k23', h0']
      · have k71 := fun lim hh => c71e (d := 14) (lim := lim) (h := hh) t (by omega) h0
        have k72 := fun lim hh => c72e (d := 14) (lim := lim) (h := hh) t (by omega) h0
        have e : errA nm nm' P S P' S' = chkT nm P S := by simp [errA, h0]
        have k73 := fun lim hh => c73e (d := 14) (lim := lim) (h := hh) t (by omega) t' (by omega) (by rw [e]; exact h0)
        rw [e] at k73
        simp [ef16, a1, k20, k20', hs, hs', t.len, t.take, t'.len, t'.take, k71, k72, k73, k23, h0]
    · simp [ef16, a1, k20, k20', hs, hs', t.len, t.take, t'.len, t'.take]
  · simp [ef16, a1, k20, hs, t.len, t.take]
theorem temperCompares_law : ∀ (bs : List (Option Blk)) us, Heap.freeze ([primesB] ++ bs) = [primesB] ++ bs → (∀ n, ctBlocks (([ctT, ctT] : List (Bool × List CT)).flatMap (·.2)) = some n → bs.length = n) →
    ArgsV 6 ([primesB] ++ bs) [ctT, ctT] us → ∃ h', E.call 21 (([primesB] : Heap) ++ bs).length 16 us ([primesB] ++ bs) = some (.bool true, h') := by
  intro bs us _ k a
  obtain ⟨u, v, rfl, a1, a2⟩ := args2 a
  obtain ⟨C, nm, P, S, rfl, t, _⟩ := arg_tm a1
  obtain ⟨C', nm', P', S', rfl, t', _⟩ := arg_tm a2
  exact ⟨_, law16 _ (awOk bs) (sp0 bs) t t'⟩
end T
end Go.Abs
