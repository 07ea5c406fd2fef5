/- Chapter 2: the law ScaleLengths. -/
import Derived.Test.YtodofkolnmoliaaDoorAbsXZ1
set_option linter.unusedSimpArgs false
set_option linter.unusedVariables false
namespace Go.Abs
namespace X
set_option maxRecDepth 100000
set_option maxHeartbeats 0
theorem ownB {h : Heap} {L : List Bd} {n : Nat} (A : List (Option Blk)) {k : Nat} (hk : A[k]? = some (some ⟨cB (L.map iB), true⟩)) (hn : n = L.length) : SlB3 (h.freeze ++ A) (.slice (some ⟨h.length + k, 0, none⟩) n 3) (L.map iB) :=
  SlB3_own (by rw [hget_base (by simp), hk]; rfl) hn
theorem ownI {h : Heap} {l : List Int} {n : Nat} (A : List (Option Blk)) {k : Nat} (hk : A[k]? = some (some ⟨cI l, true⟩)) (hn : n = l.length) : SlI' (h.freeze ++ A) (.slice (some ⟨h.length + k, 0, none⟩) n 1) l :=
  SlI'_own (by rw [hget_base (by simp), hk]; rfl) hn
abbrev bP (dl dh : Int) : Option Blk := some ⟨[i64 dl, i64 dh], true⟩
end X
end Go.Abs
