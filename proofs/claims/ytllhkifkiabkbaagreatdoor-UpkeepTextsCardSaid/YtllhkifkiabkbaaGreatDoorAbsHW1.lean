/- strings.Split at one byte. -/
import Derived.Test.YtllhkifkiabkbaaGreatDoorAbsHVM
set_option linter.unusedSimpArgs false
set_option linter.unusedVariables false
namespace Go.Abs
namespace H
set_option maxRecDepth 100000
set_option maxHeartbeats 0
set_option linter.unusedSimpArgs false
theorem c129 {d lim : Nat} {h : Heap} {l : List UInt8} {c : UInt8} : E.call (d + 2) lim 129 [tx l, tx [c]] h = some (i64 (Lib.indexByte l c), h) := by
  refine call1 fn129 rfl (by simp [ef129]) ?_
  simp [ef129, c171]
theorem c128 {d lim : Nat} {h : Heap} {l : List UInt8} {c : UInt8} : E.call (d + 1) lim 128 [tx l, tx [c]] h = some (i64 ((l.count c : Nat) : Int), h) := rfl
theorem cutB_count (c : UInt8) : ∀ s : List UInt8, (cutB c s).length = s.count c + 1
  | [] => rfl
  | x :: r => by
    have ih := cutB_count c r
    unfold cutB
    by_cases h : x = c
    · subst h; simp [ih]
    · rw [if_neg h, List.count_cons_of_ne (fun e => h e)]
      rcases e : cutB c r with _ | ⟨w, ws⟩
      · exact absurd e (cutB_ne c r)
      · rw [e] at ih; simpa using ih
/-- The cells while words are put. -/
def cellW (W : List (List UInt8)) (k : Nat) : List Value := cT W ++ List.replicate k (tx [])
theorem cellW_len (W : List (List UInt8)) (k : Nat) : (cellW W k).length = W.length + k := by simp [cellW, cT_len]
theorem cellW_put (W : List (List UInt8)) (k : Nat) (a : List UInt8) : splice (cellW W (k + 1)) W.length [tx a] = cellW (W ++ [a]) k := by
  have e : W.length = (cT W).length := (cT_len W).symm
  unfold cellW
  rw [e]
  show (cT W ++ List.replicate (k + 1) (tx [])).set (cT W).length (tx a) = _
  rw [List.replicate_succ, List.set_append_right _ _ (Nat.le_refl _), Nat.sub_self, List.set_cons_zero, ← cT_snoc]
  simp
theorem cellW_plain (W : List (List UInt8)) (k : Nat) : (cellW W k).all plainV = true := by
  unfold cellW
  rw [List.all_append, cT_plain']
  simp [plainV]
theorem c84 {d lim : Nat} {h : Heap} {s : List UInt8} {c : UInt8} (hs : s.length < 1000000) :
    E.call (d + 3) lim 84 [tx s, tx [c], i64 0, i64 (-1)] h = some (lVT h.length (cutB c s), h ++ lBT (cutB c s)) := by
  refine call_pure fn84 rfl (by simp [ef84]) ?_
  have cl := cutB_count c s
  have cn : s.count c ≤ s.length := List.count_le_length
  obtain ⟨n, hn⟩ : ∃ n, n = s.count c := ⟨_, rfl⟩
  rw [← hn] at cl cn
  have w1 : IntKind.i64.wrap ((n : Int) + 1) = ((n + 1 : Nat) : Int) := by rw [wrapR (by unfold R64; omega)]; rfl
  have w2 : IntKind.i64.wrap ((s.length : Int) + 1) = ((s.length + 1 : Nat) : Int) := by rw [wrapR (by unfold R64; omega)]; rfl
  have k60 : ∀ H, E.call (d + 2) h.length 128 [tx s, tx [c]] H = some (i64 (n : Int), H) := fun H => by rw [hn]; exact c128
  have nl : ¬ s.length < n := by omega
  have m1 : (0 : Int) ≤ (n : Int) + 1 := by omega
  have m2 : 16 * ((n : Int) + 1) ≤ 140737488355328 := by omega
  have m3 : ((n : Int) + 1) ≤ (maxLen : Int) := by unfold maxLen; omega
  have w3 : IntKind.i64.wrap (n : Int) = (n : Int) := by rw [wrapR (by unfold R64; omega)]
  have z0 : zeros [Value.string ⟨#[]⟩] (n + 1) = cellW [] (n + 1) := rfl
  simp [ef84, k60, w1, w2, E.minmax, nl, m1, m2, m3, w3, z0]
  refine wpC_loop (fun y st => ∃ (i : Nat) (W : List (List UInt8)) (rest : List UInt8), y = n - i ∧ i ≤ n ∧ W.length = i ∧ rest.length ≤ s.length ∧ cutB c s = W ++ cutB c rest ∧ st = ⟨[(0, tx rest), (1, tx [c]), (2, i64 0), (3, i64 (n : Int)), (9, .slice (some ⟨h.length, 0, none⟩) (n + 1) 1), (10, i64 (i : Nat))], h.freeze ++ [some ⟨cellW W (n + 1 - i), true⟩]⟩) n (by show n < 2 ^ 64; omega) ?_ ?_
  · have cp := cellW_plain [] (n + 1)
    simp [-collect_own1, St.tidy, collect_box, cp]
    exact ⟨0, by omega, by omega, [], rfl, s, Nat.le_refl _, rfl, ⟨rfl, rfl⟩, rfl⟩
  · rintro y hy _ ⟨i, W, rest, rfl, hi, hW, hr, he, rfl⟩
    have ct := congrArg List.length he
    rw [cl, List.length_append, hW, cutB_count] at ct
    by_cases hlt : i < n
    · have w1' : IntKind.i64.wrap ((i : Int) + 1) = ((i + 1 : Nat) : Int) := by rw [wrapR (by unfold R64; omega)]; rfl
      obtain ⟨a, b, rfl, na⟩ := mem_split (c := c) (s := rest) (List.count_pos_iff.1 (by omega))
      simp only [List.length_append, List.length_cons] at hr
      rw [cutB_at na] at he
      obtain ⟨k, hk⟩ : ∃ k, n + 1 - i = k + 1 + 1 := ⟨n - 1 - i, by omega⟩
      have hk2 : n + 1 - (i + 1) = k + 1 := by omega
      have ix : ∀ H, E.call (d + 2) h.length 129 [tx (a ++ c :: b), tx [c]] H = some (i64 (a.length : Nat), H) := fun H => by rw [c129 (d := d), idx_at na]
      have wa0 : IntKind.i64.wrap (a.length : Int) = (a.length : Int) := by rw [wrapR (by unfold R64; omega)]
      have wa : IntKind.i64.wrap ((a.length : Int) + 1) = ((a.length + 1 : Nat) : Int) := by rw [wrapR (by unfold R64; omega)]; rfl
      have t : List.drop (a.length + 1) (List.take (a.length + (b.length + 1)) (a ++ c :: b)) = b := by
        rw [List.take_of_length_le (by simp), ← List.drop_drop, List.drop_left]; rfl
      have pt := cellW_put W (k + 1) a
      rw [hW] at pt
      have ln := cellW_len W (k + 1 + 1)
      have cp := cellW_plain (W ++ [a]) (k + 1)
      have hlt' : (i : Int) < (n : Int) := by omega
      have q1 : ¬ (a.length : Int) < 0 := by omega
      have q2 : (i : Int) < (n : Int) + 1 := by omega
      have q3 : i + 1 ≤ W.length + (k + 1 + 1) := by omega
      have q4 : i + 1 ≤ i + (k + 1 + 1) := by omega
      rw [hk]
      simp [-collect_own1, hlt, hlt', ix, w1', wa0, wa, t, q1, q2, q3, q4, pt, ln, hW, St.tidy, collect_box, cp]
      exact ⟨by omega, n - (i + 1), by omega, i + 1, rfl, by omega, W ++ [a], by simp [hW], b, by omega, by rw [he]; simp, ⟨rfl, by omega⟩, by rw [hk2]⟩
    · obtain rfl : i = n := by omega
      have nc : c ∉ rest := fun q => by have := List.count_pos_iff.2 q; omega
      rw [cutB_no nc] at he
      have hk : i + 1 - i = 0 + 1 := by omega
      have pt := cellW_put W 0 rest
      rw [hW, ← he, show cellW (cutB c s) 0 = cT (cutB c s) by simp [cellW]] at pt
      have ln := cellW_len W (0 + 1)
      have cp := cT_plain' (cutB c s)
      have ne := cutB_ne c s
      have q3 : i + 1 ≤ i + (0 + 1) := by omega
      have w1' : IntKind.i64.wrap ((i : Int) + 1) = ((i + 1 : Nat) : Int) := by rw [wrapR (by unfold R64; omega)]; rfl
      have q4 : (i : Int) < (i : Int) + 1 := by omega
      rw [hk]
      have q5 : (0 : Int) ≤ (i : Int) + 1 := by omega
      simp [-collect_own1, E.bound, w1', q3, q4, q5, pt, ln, hW, collect_box, cp, lVT, lBT, ne, cl]
theorem c47 {d lim : Nat} {h : Heap} {s : List UInt8} {c : UInt8} (hs : s.length < 1000000) :
    E.call (d + 4) lim 47 [tx s, tx [c]] h = some (lVT h.length (cutB c s), h ++ lBT (cutB c s)) := by
  refine call_pure fn47 rfl (by simp [ef47]) ?_
  have k := c84 (d := d) (lim := h.length) (h := h.freeze) (c := c) hs
  have ne := cutB_ne c s
  have cp := cT_plain' (cutB c s)
  simp only [lVT, lBT, if_neg ne] at k ⊢
  simp [-collect_own1, ef47, k, collect_box, cp]
end H
end Go.Abs
