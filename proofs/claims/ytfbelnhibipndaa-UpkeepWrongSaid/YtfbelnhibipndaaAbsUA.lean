/- Chapter 7: numbers, small functions. -/
import Derived.Test.YtfbelnhibipndaaAbsU
import Derived.Test.YtfbelnhibipndaaAbsWpO
set_option linter.unusedSimpArgs false
set_option linter.unusedVariables false
namespace Go.Abs
theorem call1 {E : EProg} {f : FuncId} {F : EFun} (hf : E.fn f = some F) (hm : F.mode = .pure) {args : List Value} (hl : args.length ≤ F.n) {d lim : Nat} {h : Heap} {v : Value}
    (hw : wpC ⟨EProg.call E d, h.length, h.length, true, E.glob, E.fuel, EProg.roundOf E (EProg.call E d)⟩ F.code ⟨argFrame 0 args, h.freeze⟩ (KFun h.length F.results v [])) :
    E.call (d + 1) lim f args h = some (v, h) := by simpa using call_pure hf hm hl hw
abbrev i64 (n : Int) : Value := .int .i64 n
def R64 (n : Int) : Prop := -9223372036854775808 ≤ n ∧ n < 9223372036854775808
theorem wrapD (n : Int) : IntKind.wrap .i64 n = if n % 18446744073709551616 ≥ 9223372036854775808 then n % 18446744073709551616 - 18446744073709551616 else n % 18446744073709551616 := by
  simp [IntKind.wrap, IntKind.bits, IntKind.signed]
@[simp] theorem R64_wrap (n : Int) : R64 (IntKind.wrap .i64 n) := by rw [wrapD]; unfold R64; split <;> omega
abbrev SlI' (h : Heap) (v : Value) (l : List Int) : Prop := Sl 1 h v l.length (cI l)
theorem SlI'_own {h : Heap} {b n : Nat} {l : List Int} {rw : Bool} (e : h.get b = some ⟨cI l, rw⟩) (hn : n = l.length) : SlI' h (.slice (some ⟨b, 0, none⟩) n 1) l := by
  subst hn
  exact ⟨by simp, by simp [cI], fun _ => rfl, .inr ⟨b, 0, l.length, 1, rfl, Heap.get_lt e⟩, fun k hk => by simp only [slB_some, slO_some, Nat.zero_add]; rw [cell_get e]⟩
theorem Sl_own {α : Type} {f : α → List Value} {es : Nat} (hf : ∀ a, (f a).length = es) {h : Heap} {b n : Nat} {l : List α} {rw : Bool} (e : h.get b = some ⟨cS f l, rw⟩) (hn : n = l.length) : Sl es h (.slice (some ⟨b, 0, none⟩) n es) l.length (cS f l) := by
  subst hn
  exact ⟨by simp, by rw [cS_len hf], fun _ => rfl, .inr ⟨b, 0, l.length, es, rfl, Heap.get_lt e⟩, fun k hk => by simp only [slB_some, slO_some, Nat.zero_add]; rw [cell_get e]⟩
theorem one_cI (l : List Int) : (cI l).all Value.oneCell' = true := by simp [cI, Value.oneCell']
theorem cI_set (l : List Int) (i : Nat) (x : Int) : (cI l).set i (i64 x) = cI (l.set i x) := by simp [cI, List.map_set]
theorem cI_at (l : List Int) {i : Nat} (h : i < l.length) : (cI l)[i]? = some (i64 l[i]) := by rw [cI_get, List.getElem?_eq_getElem h]; rfl
theorem qdiv_nn {a b : Int} (h : 0 ≤ a) : qdiv a b = a / b := by unfold qdiv; exact Int.tdiv_eq_ediv_of_nonneg h
namespace U
set_option maxRecDepth 100000
set_option maxHeartbeats 0
theorem E_fuel' : E.fuel = 18446744073709551616 := rfl
abbrev W (n : Int) : Int := IntKind.wrap .i64 n
theorem w1 {i : Nat} (h : i < 1000000) : IntKind.wrap .i64 ((i : Int) + 1) = ((i + 1 : Nat) : Int) := by rw [wrap_eq (by omega) (by omega)]; rfl
def within (a b c : Int) : Bool := decide (b ≤ a ∧ a ≤ c)
theorem c65 {d lim : Nat} {h : Heap} {a b c : Int} : E.call (d + 1) lim 65 [i64 a, i64 b, i64 c] h = some (.bool (within a b c), h) := by
  refine call1 fn65 rfl (by simp [ef65]) ?_
  simp [ef65, within]
  grind
end U
end Go.Abs
