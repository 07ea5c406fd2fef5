--
import Derived.Test.YtmjkdaloalaiiaaDoorAbsJF2
import Derived.Test.YtmjkdaloalaiiaaDoorAbsWp20
set_option linter.unusedSimpArgs false
set_option linter.unusedVariables false
namespace Go.Abs
namespace J
set_option maxRecDepth 100000
set_option maxHeartbeats 0
theorem c20 {d lim : Nat} {h : Heap} {n : Int} (hn : R64 n) : E.call (d + 1) lim 20 [i64 n] h = some (tx (dec n), h) := by
 show natItoa [i64 n] h = _
 unfold natItoa
 unfold R64 at hn
 simp only
 rw [if_pos (by omega)]
theorem c52 {d lim : Nat} {h : Heap} {l : List UInt8} {c : UInt8} : E.call (d + 1) lim 52 [tx l, tx [c]] h = some (i64 (Lib.indexByte l c), h) := rfl
theorem c67 {d lim : Nat} {h : Heap} {l p : List UInt8} : E.call (d + 1) lim 67 [tx l, tx p] h = some (.bool (decide (l.take p.length = p)), h) := by
 refine call1 fn67 rfl (by simp [ef67]) ?_
 by_cases q : p.length ≤ l.length
 ·have q2 : ¬ l.length < p.length := by omega
  simp [ef67, q, q2]
 ·have q2 : l.length < p.length := by omega
  have : l.take p.length ≠ p := fun e => by
   have := congrArg List.length e
   rw [List.length_take] at this; omega
  simp [ef67, q, q2, this]
theorem c55 {d lim : Nat} {h : Heap} {l p : List UInt8} : E.call (d + 2) lim 55 [tx l, tx p] h = some (tx (if l.take p.length = p then l.drop p.length else l), h) := by
 refine call1 fn55 rfl (by simp [ef55]) ?_
 by_cases q : l.take p.length = p
 ·have : p.length ≤ l.length := by
   have := congrArg List.length q
   rw [List.length_take] at this; omega
  simp [ef55, c67, q, this]
 ·simp [ef55, c67, q]
theorem c43 {d lim : Nat} {h : Heap} {l p : List UInt8} : E.call (d + 3) lim 43 [tx l, tx p] h = some (tx (if l.take p.length = p then l.drop p.length else l), h) := by
 refine call1 fn43 rfl (by simp [ef43]) ?_
 simp [ef43, c55]
theorem trim_unsg (l : List UInt8) : (if l.take 1 = [45] then l.drop 1 else l) = unsg l := by
 rcases l with _ | ⟨c, r⟩
 ·rfl
 ·by_cases h : c = 45
  ·subst h; rfl
  ·simp [h, unsg]
end J
end Go.Abs
