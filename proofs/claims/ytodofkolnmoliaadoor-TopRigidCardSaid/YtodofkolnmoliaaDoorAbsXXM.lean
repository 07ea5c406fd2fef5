/- Chapter 2: the law's helpers. -/
import Derived.Test.YtodofkolnmoliaaDoorAbsXWN
import Derived.Test.YtodofkolnmoliaaDoorAbsXSN
import Derived.Test.YtodofkolnmoliaaDoorAbsXM
set_option linter.unusedSimpArgs false
set_option linter.unusedVariables false
/- Chapter 2: the law's helpers. -/
namespace Go.Abs
namespace X
set_option maxRecDepth 100000
set_option maxHeartbeats 0
theorem Sl_own {α : Type} {f : α → List Value} {es : Nat} (hf : ∀ a, (f a).length = es) {h : Heap} {b n : Nat} {l : List α} {rw : Bool} (e : h.get b = some ⟨cS f l, rw⟩) (hn : n = l.length) : Sl es h (.slice (some ⟨b, 0, none⟩) n es) l.length (cS f l) := by
  subst hn
  exact ⟨by simp, by rw [cS_len hf], fun _ => rfl, .inr ⟨b, 0, l.length, es, rfl, Heap.get_lt e⟩, fun k hk => by simp only [slB_some, slO_some, Nat.zero_add]; rw [cell_get e]⟩
theorem cW_plain (l : List Wi) : (cS encW l).all plainV = true := by
  simp [cS, List.all_flatMap, encW, plainV]
end X
end Go.Abs
/- Chapter 2: the laws on strands. -/
namespace Go.Abs
namespace X
set_option maxRecDepth 100000
set_option maxHeartbeats 0
def steelN : ByteArray := ⟨#[115, 116, 101, 101, 108]⟩
def steelW : Wi := ⟨steelN, 24661, 180000, 97000000⟩
def plainS : Sd := ⟨40000, 1000, 0, steelN, ⟨#[]⟩⟩
theorem c60 {d lim : Nat} {h : Heap} : E.call (d + 1) lim 60 [] h = some (.slice (some ⟨h.length, 0, none⟩) 1 4, h ++ [some ⟨cS encW [steelW], true⟩]) := by
  refine call_pure fn60 rfl (by simp [ef60]) ?_
  simp [ef60, cS, encW, steelW, steelN]
theorem c61 {d lim : Nat} {h : Heap} : E.call (d + 1) lim 61 [] h = some (sdV plainS, h) := by
  refine call1 fn61 rfl (by simp [ef61]) ?_
  simp [ef61, plainS, steelN]
end X
end Go.Abs
