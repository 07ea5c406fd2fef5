/- Slices that came in: the block behind them. -/
import Derived.Test.YtjalhpdmdiimoaaDoorAbsWpM
set_option linter.unusedSimpArgs false
set_option linter.unusedVariables false
/- Slices that came in: the block behind them. -/
namespace Go.Abs
theorem Sl.blk {es : Nat} {h : Heap} {v : Value} {n : Nat} {cs : List Value} (s : Sl es h v n cs) (hn : n ≠ 0) (hes : 0 < es) :
    ∃ b o k, v = .slice (some ⟨b, o, none⟩) n es ∧ h.get b = some k ∧ o + n * es ≤ k.cells.length ∧ (k.cells.drop o).take (n * es) = cs ∧ b < h.length := by
  have hp : 0 < n * es := Nat.mul_pos (by omega) hes
  have e := s.addr hn
  have sz := s.size
  have cell : ∀ k, k < n * es → h.cell (slB v) (slO v + k) = cs[k]? := s.cell
  have some0 : ∀ k, k < n * es → ∃ x, cs[k]? = some x := fun k hk => ⟨cs[k]'(by omega), List.getElem?_eq_getElem _⟩
  rcases g : h.get (slB v) with _ | k
  · have c0 := cell 0 hp
    obtain ⟨x, hx⟩ := some0 0 hp
    rw [hx] at c0
    simp [Heap.cell, g] at c0
  · have cc : ∀ j, j < n * es → k.cells[slO v + j]? = cs[j]? := fun j hj => by rw [← cell j hj, cell_get g]
    refine ⟨slB v, slO v, k, e, g, ?_, ?_, s.lt hn⟩
    · rcases Nat.lt_or_ge k.cells.length (slO v + n * es) with z | z
      · obtain ⟨x, hx⟩ := some0 (n * es - 1) (by omega)
        have := cc (n * es - 1) (by omega)
        rw [hx, List.getElem?_eq_none (by omega)] at this
        cases this
      · exact z
    · apply List.ext_getElem?
      intro j
      rw [List.getElem?_take]
      by_cases hj : j < n * es
      · rw [if_pos hj, List.getElem?_drop, cc j hj]
      · rw [if_neg hj, List.getElem?_eq_none (by omega)]
end Go.Abs
/- Nothing of this text is needed here. -/
/- Nothing of this text is needed here. -/
