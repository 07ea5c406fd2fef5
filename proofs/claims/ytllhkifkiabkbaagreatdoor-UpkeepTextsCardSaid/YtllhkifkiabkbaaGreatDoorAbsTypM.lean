/- Slices of numbers, of structs of numbers, of any width: what a row's premise tells of them. -/
import Derived.Test.YtllhkifkiabkbaaGreatDoorAbsRowM
import Derived.Test.YtllhkifkiabkbaaGreatDoorAbsWpM
set_option linter.unusedSimpArgs false
set_option linter.unusedVariables false
/- Slices of numbers, of structs of numbers, of any width: what a row's premise tells of them. -/
namespace Go.Abs
def r64 (n : Int) : Prop := -9223372036854775808 ≤ n ∧ n < 9223372036854775808
theorem typ_i64 {d : Nat} {h : Heap} {v : Value} (t : Typ d h (.int .i64) v) : ∃ n, v = .int .i64 n ∧ r64 n := by
  have key : ∀ {n : Int}, (Lit.int .i64 n).wf = true → r64 n := fun {n} h => by
    simp [Lit.wf, IntKind.min, IntKind.max, IntKind.signed, IntKind.bits] at h
    exact ⟨by omega, by omega⟩
  cases d <;> exact let ⟨n, e, w⟩ := t; ⟨n, e, key w⟩
/-- A slice whose elements are k numbers each. -/
theorem typ_slG {α : Type} {k : Nat} (hk : 0 < k) (enc : α → List Value) (dec : (Nat → Int) → α) (hl : ∀ a, (enc a).length = k) (hd : ∀ g j, j < k → (enc (dec g))[j]? = some (.int .i64 (g j)))
    {d : Nat} {h : Heap} {u : Value} (t : Typ (d + 1) h (.sl (List.replicate k (.int .i64))) u) :
    ∃ l : List α, Sl k h u l.length (cS enc l) ∧ l.length ≤ maxLen ∧ ∀ a ∈ l, ∀ x ∈ enc a, ∃ n, x = .int .i64 n ∧ r64 n := by
  obtain ⟨n, cs, s, hn, q⟩ := t
  rw [List.length_replicate] at s q
  have hs : cs.length = n * k := s.size
  let I : Nat → Int := fun m => match cs[m]? with | some (Value.int _ x) => x | _ => (0 : Int)
  have hI : ∀ i j, i < n → j < k → cs[i * k + j]? = some (.int .i64 (I (i * k + j))) ∧ r64 (I (i * k + j)) := fun i j hi hj => by
    have hlt : i * k + j < cs.length := by
      have : (i + 1) * k ≤ n * k := Nat.mul_le_mul_right k hi
      rw [Nat.add_mul] at this; omega
    have h0 := List.getElem?_eq_getElem hlt
    obtain ⟨x, hx, hr⟩ := typ_i64 (q i j (.int .i64) _ hi (by rw [List.getElem?_replicate, if_pos hj]) h0)
    have hx' : cs[i * k + j]? = some (.int .i64 x) := by rw [h0, hx]
    have e : I (i * k + j) = x := by simp only [I]; rw [hx']
    rw [e]; exact ⟨hx', hr⟩
  let l : List α := (List.range n).map fun i => dec fun j => I (i * k + j)
  have hll : l.length = n := by simp [l]
  have hg : ∀ i (hi : i < l.length), l[i] = dec fun j => I (i * k + j) := fun i hi => by simp [l]
  have hcs : cs = cS enc l := by
    apply List.ext_getElem?
    intro m
    rcases Nat.lt_or_ge m (n * k) with z | z
    · have hi : m / k < n := Nat.div_lt_of_lt_mul (by rw [Nat.mul_comm]; exact z)
      have hj : m % k < k := Nat.mod_lt _ hk
      have e : m = m / k * k + m % k := by rw [Nat.mul_comm]; exact (Nat.div_add_mod m k).symm
      rw [e, (hI _ _ hi hj).1, cS_get hl l _ _ (by omega) hj, hg _ (by omega), hd _ _ hj]
    · rw [List.getElem?_eq_none (by omega), List.getElem?_eq_none (by rw [cS_len hl, hll]; omega)]
  refine ⟨l, ?_, by omega, fun a ha x hx => ?_⟩
  · rw [hll, ← hcs]; exact s
  · obtain ⟨i, hi, rfl⟩ := List.getElem_of_mem ha
    obtain ⟨j, hj, rfl⟩ := List.getElem_of_mem hx
    have hj' : j < k := by rw [hl] at hj; exact hj
    have := hd (fun j => I (i * k + j)) j hj'
    rw [← hg i hi, List.getElem?_eq_getElem hj] at this
    exact ⟨_, Option.some.inj this, (hI i j (by omega) hj').2⟩
end Go.Abs
/- Slices of structs of any cells: what a row's premise tells of them. -/
namespace Go.Abs
end Go.Abs
