--
import Derived.Test.YtoloaempiiedgaaDoorAbsRSM
import Derived.Test.YtoloaempiiedgaaDoorAbsTypM
set_option linter.unusedSimpArgs false
set_option linter.unusedVariables false
namespace Go.Abs
namespace R
set_option maxRecDepth 100000
set_option maxHeartbeats 0
theorem z0 (n : Nat) : zeros [Value.int .i64 0] n = cI (zerosI n) := by
 unfold zeros cI zerosI
 induction n with
 | zero => rfl
 | succ n ih => simp_all [List.replicate_succ]
end R
end Go.Abs
namespace Go.Abs
namespace R
set_option maxRecDepth 100000
set_option maxHeartbeats 0
@[simp] theorem cN_plain (l : List Nat) : (cN l).all plainV = true := by simp [cN, plainV]
end R
end Go.Abs
namespace Go.Abs
namespace R
set_option maxRecDepth 100000
set_option maxHeartbeats 0
abbrev SlI' (h : Heap) (v : Value) (l : List Int) : Prop := Sl 1 h v l.length (cI l)
theorem SlI'_own {h : Heap} {b n : Nat} {l : List Int} {rw : Bool} (e : h.get b = some ⟨cI l, rw⟩) (hn : n = l.length) : SlI' h (.slice (some ⟨b, 0, none⟩) n 1) l := by
 subst hn
 exact ⟨by simp, by simp [cI], fun _ => rfl, .inr ⟨b, 0, l.length, 1, rfl, Heap.get_lt e⟩, fun k hk => by simp only [slB_some, slO_some, Nat.zero_add]; rw [cell_get e]⟩
theorem one_cI (l : List Int) : (cI l).all Value.oneCell' = true := by simp [cI, Value.oneCell']
theorem c11 {d lim : Nat} {h : Heap} {b p : Nat} {l : List Int} (hb : h.get b = some ⟨cI l, true⟩) (hp : p = l.length) (h1 : 1 ≤ p) (h2 : p ≤ 60) :
  E.call (d + 1) lim 11 [.slice (some ⟨b, 0, none⟩) p 1] h = some (.slice (some ⟨h.length, 0, none⟩) p 1, h ++ [some ⟨cI l, true⟩]) := by
 have hbl := Heap.get_lt hb
 have g : h.freeze.get b = some ⟨cI l, false⟩ := hget_freeze (k := ⟨cI l, true⟩) hb
 have g' : ∀ L, Heap.get (h.freeze ++ L) b = some ⟨cI l, false⟩ := fun L => by rw [Heap.get_append_lt (by simpa using hbl)]; exact g
 have m1 : p * 8 ≤ 140737488355328 := by omega
 have m2 : p ≤ 9223372036854775807 := by omega
 have one := one_cI l
 have tk : List.take p (cI l) = cI l := List.take_of_length_le (by simp [cI, hp])
 have lc : (cI l).length = p := by simp [cI, hp]
 have n0 : p ≠ 0 := by omega
 refine call_pure fn11 rfl (by simp [ef11]) ?_
 simp [ef11, E.append, E.added, maxLen, hbl, g, g', lc, n0, tk, one, m1, m2]
structure Way (n : Nat) (l : List Bd) (r : List Int) (f : Nat → Nat) : Prop where
 p1 : 1 ≤ r.length
 pn : r.length ≤ 60
 at_ : ∀ i, i < r.length → r[i]? = some ((f i : Nat) : Int)
 lt : ∀ i, i < r.length → f i < l.length
end R
end Go.Abs
namespace Go.Abs
namespace R
set_option maxRecDepth 100000
set_option maxHeartbeats 0
end R
end Go.Abs
