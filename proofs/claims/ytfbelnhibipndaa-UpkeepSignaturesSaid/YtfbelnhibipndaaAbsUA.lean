/- Chapter 7: numbers, small functions. -/
import Derived.Test.YtfbelnhibipndaaAbsU
import Derived.Test.YtfbelnhibipndaaAbsWpO
set_option linter.unusedSimpArgs false
set_option linter.unusedVariables false
namespace Go.Abs
theorem call1 {E : EProg} {f : FuncId} {F : EFun} (hf : E.fn f = some F) (hm : F.mode = .pure) {args : List Value} (hl : args.length ≤ F.n) {d lim : Nat} {h : Heap} {v : Value}
    (hw : wpC ⟨EProg.call E d, h.length, h.length, true, E.glob, E.fuel, EProg.roundOf E (EProg.call E d)⟩ F.code ⟨argFrame 0 args, h.freeze⟩ (KFun h.length F.results v [])) :
    E.call (d + 1) lim f args h = some (v, h) := by simpa using call_pure hf hm hl hw
abbrev i64 (n : Int) : Value := .int .i64 n
def R64 (n : Int) : Prop := -9223372036854775808 ≤ n ∧ n < 9223372036854775808
theorem wrapD (n : Int) : IntKind.wrap .i64 n = if n % 18446744073709551616 ≥ 9223372036854775808 then n % 18446744073709551616 - 18446744073709551616 else n % 18446744073709551616 := by
  simp [IntKind.wrap, IntKind.bits, IntKind.signed]
@[simp] theorem R64_wrap (n : Int) : R64 (IntKind.wrap .i64 n) := by rw [wrapD]; unfold R64; split <;> omega
theorem wrapR {n : Int} (h : R64 n) : IntKind.wrap .i64 n = n := wrap_eq h.1 h.2
abbrev SlI' (h : Heap) (v : Value) (l : List Int) : Prop := Sl 1 h v l.length (cI l)
theorem SlI'_own {h : Heap} {b n : Nat} {l : List Int} {rw : Bool} (e : h.get b = some ⟨cI l, rw⟩) (hn : n = l.length) : SlI' h (.slice (some ⟨b, 0, none⟩) n 1) l := by
  subst hn
  exact ⟨by simp, by simp [cI], fun _ => rfl, .inr ⟨b, 0, l.length, 1, rfl, Heap.get_lt e⟩, fun k hk => by simp only [slB_some, slO_some, Nat.zero_add]; rw [cell_get e]⟩
theorem Sl_own {α : Type} {f : α → List Value} {es : Nat} (hf : ∀ a, (f a).length = es) {h : Heap} {b n : Nat} {l : List α} {rw : Bool} (e : h.get b = some ⟨cS f l, rw⟩) (hn : n = l.length) : Sl es h (.slice (some ⟨b, 0, none⟩) n es) l.length (cS f l) := by
  subst hn
  exact ⟨by simp, by rw [cS_len hf], fun _ => rfl, .inr ⟨b, 0, l.length, es, rfl, Heap.get_lt e⟩, fun k hk => by simp only [slB_some, slO_some, Nat.zero_add]; rw [cell_get e]⟩
theorem one_cI (l : List Int) : (cI l).all Value.oneCell' = true := by simp [cI, Value.oneCell']
theorem cI_set (l : List Int) (i : Nat) (x : Int) : (cI l).set i (i64 x) = cI (l.set i x) := by simp [cI, List.map_set]
theorem cI_at (l : List Int) {i : Nat} (h : i < l.length) : (cI l)[i]? = some (i64 l[i]) := by rw [cI_get, List.getElem?_eq_getElem h]; rfl
theorem cI_app (l m : List Int) : cI l ++ cI m = cI (l ++ m) := by simp [cI]
theorem qdiv_nn {a b : Int} (h : 0 ≤ a) : qdiv a b = a / b := by unfold qdiv; exact Int.tdiv_eq_ediv_of_nonneg h
theorem qdiv_lt {a b : Int} (h0 : 0 < b) (h : a < 0) : qdiv a b = -(-a / b) := by
  unfold qdiv
  have : a.tdiv b = -((-a).tdiv b) := by rw [Int.neg_tdiv, Int.neg_neg]
  rw [this, Int.tdiv_eq_ediv_of_nonneg (by omega)]
namespace U
set_option maxRecDepth 100000
set_option maxHeartbeats 0
theorem E_fuel' : E.fuel = 18446744073709551616 := rfl
abbrev W (n : Int) : Int := IntKind.wrap .i64 n
theorem w1 {i : Nat} (h : i < 1000000) : IntKind.wrap .i64 ((i : Int) + 1) = ((i + 1 : Nat) : Int) := by rw [wrap_eq (by omega) (by omega)]; rfl
def within (a b c : Int) : Bool := decide (b ≤ a ∧ a ≤ c)
theorem c65 {d lim : Nat} {h : Heap} {a b c : Int} : E.call (d + 1) lim 65 [i64 a, i64 b, i64 c] h = some (.bool (within a b c), h) := by
  refine call1 fn65 rfl (by simp [ef65]) ?_
  simp [ef65, within]
  grind
theorem c30 {d lim : Nat} {h : Heap} {a b c : Int} : E.call (d + 1) lim 30 [i64 a, i64 b, i64 c] h = some (.bool (within a b c), h) := by
  refine call1 fn30 rfl (by simp [ef30]) ?_
  simp [ef30, within]
  grind
theorem c70 {d lim : Nat} {h : Heap} {a : Int} : E.call (d + 2) lim 70 [i64 a] h = some (.bool (within a 0 100000), h) := by
  refine call1 fn70 rfl (by simp [ef70]) ?_
  simp [ef70, c65]
theorem c23 {d lim : Nat} {h : Heap} {a : Int} : E.call (d + 2) lim 23 [i64 a] h = some (.bool (within a 0 100000), h) := by
  refine call1 fn23 rfl (by simp [ef23]) ?_
  simp [ef23, c30]
theorem c66 {d lim : Nat} {h : Heap} {a : Int} : E.call (d + 2) lim 66 [i64 a] h = some (.bool (within a 0 200000), h) := by
  refine call1 fn66 rfl (by simp [ef66]) ?_
  simp [ef66, c30]
/-- Division, rounded down. -/
theorem floor_eq {n m : Int} (hm : 0 < m) (h1 : -1000000000000000000 ≤ n) (h2 : n ≤ 1000000000000000000) : (if qmod n m < 0 then IntKind.wrap .i64 (IntKind.wrap .i64 (qdiv n m) - 1) else IntKind.wrap .i64 (qdiv n m)) = n / m := by
  have e := Int.mul_ediv_add_emod n m
  have r0 := Int.emod_nonneg n (Int.ne_of_gt hm)
  have r1 := Int.emod_lt_of_pos n hm
  have e2 : qdiv n m * m + qmod n m = n := by unfold qdiv qmod; exact Int.tdiv_mul_add_tmod n m
  have hq : -1000000000000000000 ≤ qdiv n m ∧ qdiv n m ≤ 1000000000000000000 := by
    have : (qdiv n m).natAbs ≤ n.natAbs := by unfold qdiv; rw [Int.natAbs_tdiv]; exact Nat.div_le_self _ _
    omega
  have hd : -1000000000000000000 ≤ n / m ∧ n / m ≤ 1000000000000000000 := by
    constructor
    · rw [Int.le_ediv_iff_mul_le hm]
      have : (-1000000000000000000 : Int) * m ≤ -1000000000000000000 * 1 := Int.mul_le_mul_of_nonpos_left (by omega) (by omega)
      omega
    · rcases Int.lt_or_le n 0 with z | z
      · have := Int.ediv_neg_of_neg_of_pos z hm; omega
      · have := Int.ediv_le_self m z; omega
  have hm2 : (qmod n m).natAbs < m.natAbs := by unfold qmod; rw [Int.natAbs_tmod]; exact Nat.mod_lt _ (by omega)
  rw [wrap_eq (n := qdiv n m) (by omega) (by omega)]
  generalize qdiv n m = q at *
  generalize qmod n m = r at *
  generalize n / m = k at *
  generalize n % m = s at *
  have hk : (q - k) * m = s - r := by rw [Int.sub_mul, Int.mul_comm k m]; omega
  split
  · rename_i hr
    rw [wrap_eq (by omega) (by omega)]
    have h3 : 0 < (q - k) * m := by omega
    have h4 : (q - k) * m < 2 * m := by omega
    have h5 : 0 < q - k := by
      rcases Int.lt_or_le 0 (q - k) with z | z
      · exact z
      · have := Int.mul_le_mul_of_nonneg_right z (Int.le_of_lt hm); omega
    have h6 : q - k < 2 := Int.lt_of_mul_lt_mul_right h4 (Int.le_of_lt hm)
    omega
  · rename_i hr
    have h3 : -m < (q - k) * m := by omega
    have h4 : (q - k) * m < m := by omega
    have h5 : q - k < 1 := Int.lt_of_mul_lt_mul_right (by rw [Int.one_mul]; exact h4) (Int.le_of_lt hm)
    have h6 : -1 < q - k := Int.lt_of_mul_lt_mul_right (by rw [Int.neg_one_mul]; exact h3) (Int.le_of_lt hm)
    omega
theorem c76 {d lim : Nat} {h : Heap} {n m : Int} (hm : 0 < m) (h1 : -1000000000000000000 ≤ n) (h2 : n ≤ 1000000000000000000) : E.call (d + 1) lim 76 [i64 n, i64 m] h = some (i64 (n / m), h) := by
  have e := floor_eq hm h1 h2
  refine call1 fn76 rfl (by simp [ef76]) ?_
  have m0 : m ≠ 0 := by omega
  generalize n / m = k at *
  by_cases q : qmod n m < 0
  · rw [if_pos q] at e
    simp [ef76, m0, q, e]
  · rw [if_neg q] at e
    simp [ef76, m0, q, e]
theorem c100 {d lim : Nat} {h : Heap} {n m : Int} (hm : 0 < m) (h1 : -1000000000000000000 ≤ n) (h2 : n ≤ 1000000000000000000) : E.call (d + 1) lim 100 [i64 n, i64 m] h = some (i64 (n / m), h) := by
  have e := floor_eq hm h1 h2
  refine call1 fn100 rfl (by simp [ef100]) ?_
  have m0 : m ≠ 0 := by omega
  generalize n / m = k at *
  by_cases q : qmod n m < 0
  · rw [if_pos q] at e
    simp [ef100, m0, q, e]
  · rw [if_neg q] at e
    simp [ef100, m0, q, e]
theorem up_neg {n m : Int} (hm : 0 < m) : -((-n) / m) = (n + m - 1) / m := by
  have e := Int.mul_ediv_add_emod (n + m - 1) m
  have r0 := Int.emod_nonneg (n + m - 1) (Int.ne_of_gt hm)
  have r1 := Int.emod_lt_of_pos (n + m - 1) hm
  generalize (n + m - 1) / m = q at *
  generalize (n + m - 1) % m = s at *
  have := (Int.ediv_emod_unique (a := -n) (r := m - 1 - s) (q := -q) hm).2 ⟨by rw [Int.mul_neg]; omega, by omega, by omega⟩
  omega
theorem c67 {d lim : Nat} {h : Heap} {n : Int} (h1 : 0 ≤ n) (h2 : n ≤ 1000000000000000) : E.call (d + 2) lim 67 [i64 n, i64 1000] h = some (i64 ((n + 999) / 1000), h) := by
  have w1 : IntKind.wrap .i64 (-n) = -n := wrap_eq (by omega) (by omega)
  have k := fun lim h => c76 (d := d) (lim := lim) (h := h) (n := -n) (m := 1000) (by omega) (by omega) (by omega)
  have e : -(-n / 1000) = (n + 999) / 1000 := by rw [up_neg (by omega)]; congr 1; omega
  have w2 : IntKind.wrap .i64 (-(-n / 1000)) = (n + 999) / 1000 := by rw [e, wrap_eq (by omega) (by omega)]
  refine call1 fn67 rfl (by simp [ef67]) ?_
  simp [ef67, w1, k, w2]
theorem c77 {d lim : Nat} {h : Heap} {n : Int} (h1 : -9223372036854775808 < n) (h2 : n < 9223372036854775808) : E.call (d + 1) lim 77 [i64 n] h = some (i64 (if n < 0 then -n else n), h) := by
  refine call1 fn77 rfl (by simp [ef77]) ?_
  by_cases q : n < 0
  · have w1 : IntKind.wrap .i64 (-n) = -n := wrap_eq (by omega) (by omega)
    simp [ef77, q, w1]
  · simp [ef77, q]
end U
end Go.Abs
