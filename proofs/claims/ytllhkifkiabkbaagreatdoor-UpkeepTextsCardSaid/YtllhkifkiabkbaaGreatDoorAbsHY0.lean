/- upkeep.Print for the evaluator: its values by a plain function; the table with Print. -/
import Derived.Test.YtllhkifkiabkbaaGreatDoorAbsHXB
import Derived.Test.YtllhkifkiabkbaaGreatDoorAbsHQM
import Derived.Test.YtllhkifkiabkbaaGreatDoorAbsMono
set_option linter.unusedSimpArgs false
set_option linter.unusedVariables false
namespace Go.Abs
namespace H.U
open Go.RowKit
set_option maxRecDepth 100000
set_option maxHeartbeats 400000
set_option linter.unusedSimpArgs false
def decU : List Value → Option (List P6)
  | [] => some []
  | .int .i64 a :: .int .i64 b :: .int .i64 c :: .int .i64 d :: .int .i64 e :: .int .i64 f :: r => (decU r).map (((a, b, c, d), (e, f)) :: ·)
  | _ => none
theorem decU_cells : ∀ {l : List P6}, decU (cS enc6 l) = some l
  | [] => rfl
  | ((a, b, c, d), (e, f)) :: r => by
    have : cS enc6 (((a, b, c, d), (e, f)) :: r) = i64 a :: i64 b :: i64 c :: i64 d :: i64 e :: i64 f :: cS enc6 r := by simp [cS, enc6, enc4, enc2]
    rw [this, decU, decU_cells]; rfl
theorem decU_inv : ∀ (n : Nat) {cs : List Value} {l : List P6}, cs.length ≤ n → decU cs = some l → cs = cS enc6 l := by
  intro n
  induction n with
  | zero =>
    intro cs l hn h
    obtain rfl : cs = [] := List.length_eq_zero_iff.1 (by omega)
    cases h; rfl
  | succ n ih =>
    intro cs l hn h
    unfold decU at h
    split at h
    · cases h; rfl
    · rename_i a b c d e f r
      obtain ⟨m, hm, rfl⟩ := Option.map_eq_some_iff.1 h
      rw [ih (by simp at hn; omega) hm]
      simp [cS, enc6, enc4, enc2]
    · cases h
def prVU (l : List P6) : Value := if chkN l = 0 then .tuple #[tx (prU l l.length), i64 0] else .tuple #[tx [], i64 (chkN l)]
def natPrintU : List Value → Heap → Option (Value × Heap)
  | [.slice none 0 0], h => some (prVU [], h)
  | [.slice (some ⟨b, 0, none⟩) n 6], h => match h.get b with
    | some k => match decU k.cells with
      | some l => if l.length = n then some (prVU l, h) else none
      | none => none
    | none => none
  | _, _ => none
theorem chkN_le {l : List P6} (h : chkN l = 0) : l.length ≤ 60 := by
  unfold chkN at h
  by_cases z : 60 < l.length
  · rw [if_pos z] at h; cases h
  · omega
theorem within_R64 {x a b : Int} (h : within x a b = true) (ha : -9223372036854775808 ≤ a) (hb : b ≤ 9223372036854775807) : R64 x := by
  unfold within at h
  simp at h
  unfold R64
  omega
theorem chkN_R6 {l : List P6} (h : chkN l = 0) {i : Nat} (hi : i < l.length) : R6 (at6 l i) := by
  have hl := chkN_le h
  unfold chkN at h
  rw [if_neg (by omega), fstE_all _ 0 rfl] at h
  have e := h i (by omega) hi
  unfold ctErr at e
  by_cases z : chkX (at6 l i).1.1 (at6 l i).1.2.1 (at6 l i).1.2.2.1 (at6 l i).1.2.2.2 = 0
  case neg => rw [if_neg z] at e; exact absurd e z
  rw [if_pos z] at e
  by_cases y : has4 ((tsL l).take i) (at6 l i).1 = true
  case pos => rw [if_pos y] at e; cases e
  rw [if_neg y] at e
  unfold rErr at e
  split at e
  case isFalse => cases e
  rename_i q
  unfold chkX at z
  split at z
  case isFalse => cases z
  rename_i r
  intro n hn
  simp only [six, List.mem_cons, List.not_mem_nil, or_false] at hn
  rcases hn with rfl | rfl | rfl | rfl | rfl | rfl
  · exact within_R64 r.1 (by decide) (by decide)
  · exact within_R64 r.2.1 (by decide) (by decide)
  · exact within_R64 r.2.2.1 (by decide) (by decide)
  · exact within_R64 r.2.2.2 (by decide) (by decide)
  · exact within_R64 q.1 (by decide) (by decide)
  · exact within_R64 q.2 (by decide) (by decide)
def efP : EFun := ⟨.skip, [], .nat natPrintU, 0⟩
def E1 : EProg := ⟨fun f => if f = 25 then some efP else E.fn f, E.glob, E.fuel⟩
theorem E1_le : E.Le E1 := ⟨fun f F h => by
  show (if f = 25 then some efP else E.fn f) = some F
  by_cases q : f = 25
  · subst q; cases h
  · rw [if_neg q]; exact h, rfl, rfl⟩
theorem up {d lim : Nat} {f : FuncId} {a : List Value} {h : Heap} {r : Value × Heap} (e : E.call d lim f a h = some r) : E1.call d lim f a h = some r := E1_le.call d _ _ _ _ _ e
theorem c25 {d lim n b : Nat} {h : Heap} {l : List P6} (e : h.get b = some ⟨cS enc6 l, true⟩) (hn : l.length = n) : E1.call (d + 1) lim 25 [.slice (some ⟨b, 0, none⟩) n 6] h = some (prVU l, h) := by
  have q : E1.fn 25 = some efP := rfl
  simp only [EProg.call, q, efP]
  unfold natPrintU
  simp [e, decU_cells, hn]
end H.U
end Go.Abs
