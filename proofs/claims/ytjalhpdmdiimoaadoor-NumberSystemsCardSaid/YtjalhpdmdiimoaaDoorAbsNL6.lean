/- The law NumberBest: no line is better. -/
import Derived.Test.YtjalhpdmdiimoaaDoorAbsNL5
set_option linter.unusedSimpArgs false
set_option linter.unusedVariables false
namespace Go.Abs.N
open Go Go.Abs
set_option maxRecDepth 100000
set_option maxHeartbeats 0
/-- A heap in which the examples are so. -/
structure AwOk (h : Heap) : Prop where
  a0 : ∀ lim, E.call 20 lim 18 [] h.freeze = some (.bool true, h.freeze)
  a1 : ∀ lim x, E.call 20 lim 18 [] (h.freeze ++ [x]) = some (.bool true, h.freeze ++ [x])
  a2 : ∀ lim x y, E.call 20 lim 18 [] (h.freeze ++ [x, y]) = some (.bool true, h.freeze ++ [x, y])
theorem awOk1 {b : Option Blk} (hf : Heap.freeze ([primesB] ++ [b]) = [primesB] ++ [b]) : AwOk ([primesB] ++ [b]) := by
  refine ⟨?_, ?_, ?_⟩ <;> rw [hf]
  · exact fun lim => awake1 lim b
  · exact fun lim x => awake2 lim b x
  · exact fun lim x y => awake3 lim b x y
theorem one_of {bs : List (Option Blk)} {cts : List (Bool × List CT)} (k : ∀ n, ctBlocks (cts.flatMap (·.2)) = some n → bs.length = n) (h : ctBlocks (cts.flatMap (·.2)) = some 1) : ∃ b, bs = [b] := by
  have := k 1 h
  match bs, this with
  | [b], _ => exact ⟨b, rfl⟩
end Go.Abs.N
