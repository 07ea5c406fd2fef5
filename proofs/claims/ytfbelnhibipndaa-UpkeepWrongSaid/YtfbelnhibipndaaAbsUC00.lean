/- Copies of what came in. -/
import Derived.Test.YtfbelnhibipndaaAbsUA
import Derived.Test.YtfbelnhibipndaaAbsWpN
set_option linter.unusedSimpArgs false
set_option linter.unusedVariables false
namespace Go.Abs
theorem app_some {es bytes b n : Nat} {H : Heap} {v : Value} {cs : List Value} (s : Sl es H v n cs) (hn : n ≠ 0) (hes : 0 < es) (hb : H.get b = some ⟨[], true⟩) (h1 : cs.all Value.oneCell' = true) (hby : n * bytes ≤ 140737488355328) (hmx : n ≤ 9223372036854775807) :
    E.append H es bytes (.slice (some ⟨b, 0, none⟩) 0 es) v = some ⟨.slice (some ⟨H.length, 0, none⟩) n es, [b, slB v], .move b ⟨cs, true⟩⟩ := by
  obtain ⟨bv, o, k, rfl, g, h2, h3, h4⟩ := s.blk hn hes
  have hes' : es ≠ 0 := by omega
  have hmx' : n ≤ maxLen := by unfold maxLen; exact hmx
  unfold E.append E.added
  simp only [hn, if_false, if_true, g, h2, h3, h1, hes', hb]
  simp [hby, hmx']
theorem app_none {es bytes b : Nat} {H : Heap} {v : Value} {cs : List Value} (s : Sl es H v 0 cs) (hes : 0 < es) :
    E.append H es bytes (.slice (some ⟨b, 0, none⟩) 0 es) v = some ⟨.slice (some ⟨b, 0, none⟩) 0 es, [], .none⟩ := by
  have hes' : es ≠ 0 := by omega
  rcases s.low with rfl | ⟨bv, o, m, t, rfl, hb⟩
  · simp [E.append, E.added, hes']
  · obtain rfl : m = 0 := by have := s.len; simpa using this
    simp [E.append, E.added, hes']
theorem Blk_addrs_nil (rw : Bool) : Blk.addrs ⟨[], rw⟩ = some [] := rfl
theorem Blk_ren_nil (r : Nat → Nat) (rw : Bool) : Blk.ren r ⟨[], rw⟩ = ⟨[], rw⟩ := rfl
theorem freeze_freeze (h : Heap) : h.freeze.freeze = h.freeze := by
  unfold Heap.freeze
  rw [List.map_map]
  congr 1
  funext b
  cases b <;> rfl
end Go.Abs
