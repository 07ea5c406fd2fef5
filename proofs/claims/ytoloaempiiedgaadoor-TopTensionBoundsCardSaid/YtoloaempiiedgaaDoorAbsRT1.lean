--
import Derived.Test.YtoloaempiiedgaaDoorAbsRZ1
import Derived.Test.YtoloaempiiedgaaDoorAbsRBN
set_option linter.unusedSimpArgs false
set_option linter.unusedVariables false
namespace Go.Abs
namespace R
set_option maxRecDepth 100000
set_option maxHeartbeats 0
abbrev Pr (h : Heap) : Prop := SlU h (.slice (some ⟨0, 0, none⟩) 3 1) [2, 3, 5]
theorem enc440 {L H : Nat} (S : EncS 0 0 0 1 440000 L H) : L = 440000 ∧ H = 440000 := by
 have a : encP 0 0 0 1 440000 440000 := by unfold encP; decide +kernel
 have b : ¬ encP 0 0 0 1 440000 440001 := by unfold encP; decide +kernel
 have q : encQ 0 0 0 1 440000 440000 := by unfold encQ; decide +kernel
 rw [S.iff _ (by decide)] at a b
 have e : L = 440000 := by omega
 subst e
 exact ⟨rfl, S.on q⟩
theorem c20 {d lim : Nat} {h : Heap} (sp : Pr h) : E.call (d + 8) lim 20 [] h = some (.bool true, h) := by
 obtain ⟨L, H, S⟩ := encS 0 0 0 1 (by decide) 440000
 have k57 := fun lim => c25 (d := d + 2) (lim := lim) (Sl_freeze.2 sp) (a := 0) (b := 0) (c := 0) (e := 1) (by decide) (t := 440000) (by decide) S
 obtain ⟨rfl, rfl⟩ := enc440 S
 have s1 : smallL (440000 : Nat) (440000 : Nat) = 440000 := by decide
 have s2 : smallH (440000 : Nat) (440000 : Nat) = 440000 := by decide
 have s3 : smallE (440000 : Nat) (440000 : Nat) = 0 := by decide
 rw [s1, s2, s3] at k57
 have g1 : Heap.get (h.freeze ++ [bA, bS]).freeze (h.length + 1) = some ⟨cS encW [steelW], false⟩ := hget_freeze (k := ⟨cS encW [steelW], true⟩) (by rw [hget_base (by simp)]; rfl)
 have k15 := fun lim => c26 (d := d) (lim := lim) (s := plainS) (a := 440000) (b := 440000) (Sl_own (f := encW) (es := 4) (fun _ => rfl) g1 rfl) (by simp) steel_nms
 obtain ⟨t1, t2⟩ := steel_ten
 simp only [steel_heard, t1, t2, rgE, if_true] at k15
 simp at k15 k57
 refine call1 fn20 rfl (by simp [ef20]) ?_
 simp [ef20, c28, c29, k57, k15]
end R
end Go.Abs
