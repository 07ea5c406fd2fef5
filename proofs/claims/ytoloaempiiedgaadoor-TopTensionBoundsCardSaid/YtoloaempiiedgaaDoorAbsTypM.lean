--
import Derived.Test.YtoloaempiiedgaaDoorAbsRowM
import Derived.Test.YtoloaempiiedgaaDoorAbsWpM
set_option linter.unusedSimpArgs false
set_option linter.unusedVariables false
namespace Go.Abs
def r64 (n : Int) : Prop := -9223372036854775808 ≤ n ∧ n < 9223372036854775808
theorem typ_i64 {d : Nat} {h : Heap} {v : Value} (t : Typ d h (.int .i64) v) : ∃ n, v = .int .i64 n ∧ r64 n := by
 have key : ∀ {n : Int}, (Lit.int .i64 n).wf = true → r64 n := fun {n} h => by
  simp [Lit.wf, IntKind.min, IntKind.max, IntKind.signed, IntKind.bits] at h
  exact ⟨by omega, by omega⟩
 cases d <;> exact let ⟨n, e, w⟩ := t; ⟨n, e, key w⟩
theorem typ_slG {α : Type} {k : Nat} (hk : 0 < k) (enc : α → List Value) (dec : (Nat → Int) → α) (hl : ∀ a, (enc a).length = k) (hd : ∀ g j, j < k → (enc (dec g))[j]? = some (.int .i64 (g j)))
  {d : Nat} {h : Heap} {u : Value} (t : Typ (d + 1) h (.sl (List.replicate k (.int .i64))) u) :
  ∃ l : List α, Sl k h u l.length (cS enc l) ∧ l.length ≤ maxLen ∧ ∀ a ∈ l, ∀ x ∈ enc a, ∃ n, x = .int .i64 n ∧ r64 n := by
 obtain ⟨n, cs, s, hn, q⟩ := t
 rw [List.length_replicate] at s q
 have hs : cs.length = n * k := s.size
 let I : Nat → Int := fun m => match cs[m]? with | some (Value.int _ x) => x | _ => (0 : Int)
 have hI : ∀ i j, i < n → j < k → cs[i * k + j]? = some (.int .i64 (I (i * k + j))) ∧ r64 (I (i * k + j)) := fun i j hi hj => by
  have hlt : i * k + j < cs.length := by
   have : (i + 1) * k ≤ n * k := Nat.mul_le_mul_right k hi
   rw [Nat.add_mul] at this; omega
  have h0 := List.getElem?_eq_getElem hlt
  obtain ⟨x, hx, hr⟩ := typ_i64 (q i j (.int .i64) _ hi (by rw [List.getElem?_replicate, if_pos hj]) h0)
  have hx' : cs[i * k + j]? = some (.int .i64 x) := by rw [h0, hx]
  have e : I (i * k + j) = x := by simp only [I]; rw [hx']
  rw [e]; exact ⟨hx', hr⟩
 let l : List α := (List.range n).map fun i => dec fun j => I (i * k + j)
 have hll : l.length = n := by simp [l]
 have hg : ∀ i (hi : i < l.length), l[i] = dec fun j => I (i * k + j) := fun i hi => by simp [l]
 have hcs : cs = cS enc l := by
  apply List.ext_getElem?
  intro m
  rcases Nat.lt_or_ge m (n * k) with z | z
  ·have hi : m / k < n := Nat.div_lt_of_lt_mul (by rw [Nat.mul_comm]; exact z)
   have hj : m % k < k := Nat.mod_lt _ hk
   have e : m = m / k * k + m % k := by rw [Nat.mul_comm]; exact (Nat.div_add_mod m k).symm
   rw [e, (hI _ _ hi hj).1, cS_get hl l _ _ (by omega) hj, hg _ (by omega), hd _ _ hj]
  ·rw [List.getElem?_eq_none (by omega), List.getElem?_eq_none (by rw [cS_len hl, hll]; omega)]
 refine ⟨l, ?_, by omega, fun a ha x hx => ?_⟩
 ·rw [hll, ← hcs]; exact s
 ·obtain ⟨i, hi, rfl⟩ := List.getElem_of_mem ha
  obtain ⟨j, hj, rfl⟩ := List.getElem_of_mem hx
  have hj' : j < k := by rw [hl] at hj; exact hj
  have := hd (fun j => I (i * k + j)) j hj'
  rw [← hg i hi, List.getElem?_eq_getElem hj] at this
  exact ⟨_, Option.some.inj this, (hI i j (by omega) hj').2⟩
end Go.Abs
namespace Go.Abs
theorem typ_slX {α : Type} {cts : List CT} (hk : 0 < cts.length) (enc : α → List Value) (dec : (Nat → Value) → α) (hl : ∀ a, (enc a).length = cts.length) {d : Nat} {h : Heap}
  (hd : ∀ g : Nat → Value, (∀ j t, cts[j]? = some t → Typ d h t (g j)) → ∀ j, j < cts.length → (enc (dec g))[j]? = some (g j))
  {u : Value} (t : Typ (d + 1) h (.sl cts) u) :
  ∃ l : List α, Sl cts.length h u l.length (cS enc l) ∧ l.length ≤ maxLen ∧ ∀ a ∈ l, ∃ g : Nat → Value, a = dec g ∧ ∀ j t, cts[j]? = some t → Typ d h t (g j) := by
 obtain ⟨n, cs, s, hn, q⟩ := t
 have hs : cs.length = n * cts.length := s.size
 let G : Nat → Nat → Value := fun i j => (cs[i * cts.length + j]?).getD .nilIface
 have lt : ∀ i j, i < n → j < cts.length → i * cts.length + j < cs.length := fun i j hi hj => by
  have : (i + 1) * cts.length ≤ n * cts.length := Nat.mul_le_mul_right _ hi
  rw [Nat.add_mul] at this; omega
 have hG : ∀ i j, i < n → j < cts.length → cs[i * cts.length + j]? = some (G i j) := fun i j hi hj => by
  have h0 := List.getElem?_eq_getElem (lt i j hi hj)
  simp only [G]; rw [h0]; rfl
 have hT : ∀ i, i < n → ∀ j t, cts[j]? = some t → Typ d h t (G i j) := fun i hi j t ht => by
  have hj : j < cts.length := (List.getElem?_eq_some_iff.1 ht).1
  exact q i j t _ hi ht (hG i j hi hj)
 let l : List α := (List.range n).map fun i => dec (G i)
 have hll : l.length = n := by simp [l]
 have hg : ∀ i (hi : i < l.length), l[i] = dec (G i) := fun i hi => by simp [l]
 have hcs : cs = cS enc l := by
  apply List.ext_getElem?
  intro m
  rcases Nat.lt_or_ge m (n * cts.length) with z | z
  ·have hi : m / cts.length < n := Nat.div_lt_of_lt_mul (by rw [Nat.mul_comm]; exact z)
   have hj : m % cts.length < cts.length := Nat.mod_lt _ hk
   have e : m = m / cts.length * cts.length + m % cts.length := by rw [Nat.mul_comm]; exact (Nat.div_add_mod m cts.length).symm
   rw [e, hG _ _ hi hj, cS_get hl l _ _ (by omega) hj, hg _ (by omega), hd _ (hT _ hi) _ hj]
  ·rw [List.getElem?_eq_none (by omega), List.getElem?_eq_none (by rw [cS_len hl, hll]; omega)]
 refine ⟨l, ?_, by omega, fun a ha => ?_⟩
 ·rw [hll, ← hcs]; exact s
 ·obtain ⟨i, hi, rfl⟩ := List.getElem_of_mem ha
  rw [hg i hi]
  exact ⟨G i, rfl, hT i (by omega)⟩
end Go.Abs
