/- Chapter 2: the law's helpers. -/
import Derived.Test.YtodofkolnmoliaaDoorAbsXWN
import Derived.Test.YtodofkolnmoliaaDoorAbsXSN
import Derived.Test.YtodofkolnmoliaaDoorAbsXM
set_option linter.unusedSimpArgs false
set_option linter.unusedVariables false
/- Chapter 2: the law's helpers. -/
namespace Go.Abs
namespace X
set_option maxRecDepth 100000
set_option maxHeartbeats 0
theorem Sl_own {α : Type} {f : α → List Value} {es : Nat} (hf : ∀ a, (f a).length = es) {h : Heap} {b n : Nat} {l : List α} {rw : Bool} (e : h.get b = some ⟨cS f l, rw⟩) (hn : n = l.length) : Sl es h (.slice (some ⟨b, 0, none⟩) n es) l.length (cS f l) := by
  subst hn
  exact ⟨by simp, by rw [cS_len hf], fun _ => rfl, .inr ⟨b, 0, l.length, es, rfl, Heap.get_lt e⟩, fun k hk => by simp only [slB_some, slO_some, Nat.zero_add]; rw [cell_get e]⟩
theorem cW_plain (l : List Wi) : (cS encW l).all plainV = true := by
  simp [cS, List.all_flatMap, encW, plainV]
theorem cI_one (l : List Int) : (cI l).all Value.oneCell' = true := by simp [cI, Value.oneCell']
theorem c17g {d lim : Nat} {h : Heap} {v : Value} {l : List Int} (s : SlI' h v l) (hl : l.length ≤ 100000) :
    E.call (d + 1) lim 17 [v] h = some (.slice (some ⟨h.length, 0, none⟩) l.length 1, h ++ [some ⟨cI l, true⟩]) := by
  refine call_pure fn17 rfl (by simp [ef17]) ?_
  rcases Nat.eq_zero_or_pos l.length with hz | hz
  · have el : l = [] := List.eq_nil_of_length_eq_zero hz
    subst el
    rcases s.low with rfl | ⟨bv, o', m', t', rfl, hbv⟩
    · simp [ef17, E.append, E.added, zeros, fillL, cI, Blk_addrs_nil, Blk_ren_nil]
    · obtain rfl : m' = 0 := by
        have := s.len
        simpa using this
      simp [ef17, E.append, E.added, zeros, fillL, cI, Blk_addrs_nil, Blk_ren_nil]
  · obtain ⟨b, o', kc, rfl, G, g1, g2, hb'⟩ := s.blkF (by omega) (by decide)
    have cp := cI_plain l
    have c1 := cI_one l
    have n0 : l.length ≠ 0 := by omega
    have m1 : l.length * 8 ≤ 140737488355328 := by omega
    have m2 : l.length ≤ 9223372036854775807 := by omega
    simp at g1 g2
    simp [ef17, E.append, E.added, zeros, fillL, G, g1, g2, n0, c1, cp, m1, m2, maxLen]
end X
end Go.Abs
/- Chapter 2: the laws on strands. -/
namespace Go.Abs
namespace X
set_option maxRecDepth 100000
set_option maxHeartbeats 0
def steelN : ByteArray := ⟨#[115, 116, 101, 101, 108]⟩
def steelW : Wi := ⟨steelN, 24661, 180000, 97000000⟩
def plainS : Sd := ⟨40000, 1000, 0, steelN, ⟨#[]⟩⟩
theorem c60 {d lim : Nat} {h : Heap} : E.call (d + 1) lim 60 [] h = some (.slice (some ⟨h.length, 0, none⟩) 1 4, h ++ [some ⟨cS encW [steelW], true⟩]) := by
  refine call_pure fn60 rfl (by simp [ef60]) ?_
  simp [ef60, cS, encW, steelW, steelN]
theorem c61 {d lim : Nat} {h : Heap} : E.call (d + 1) lim 61 [] h = some (sdV plainS, h) := by
  refine call1 fn61 rfl (by simp [ef61]) ?_
  simp [ef61, plainS, steelN]
end X
end Go.Abs
