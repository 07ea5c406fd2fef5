/- Well, Widest: both. -/
import Derived.Test.YtinbdefjjfmfoaaDoorAbsTHM
import Derived.Test.YtinbdefjjfmfoaaDoorAbsWpN
import Derived.Test.YtinbdefjjfmfoaaDoorAbsTyped
import Derived.Test.YtinbdefjjfmfoaaDoorAbsTHO
set_option linter.unusedSimpArgs false
set_option linter.unusedVariables false
/- Well, Widest: both. -/
namespace Go.Abs
namespace T
set_option maxRecDepth 100000
set_option maxHeartbeats 0
end T
end Go.Abs
/- Against: both; lists of numbers compared. -/
namespace Go.Abs
namespace T
set_option maxRecDepth 100000
set_option maxHeartbeats 0
theorem c76 {d lim : Nat} {h : Heap} {v w : Value} {l r : List Int} (s : SlI h v l) (t : SlI h w r) (hl : l.length < 100000) : E.call (d + 1) lim 76 [v, w] h = some (.bool (decide (l = r)), h) := by
  have rs := s.rules2
  have rt := t.rules2
  refine call1 fn76 rfl (by simp [ef76]) ?_
  by_cases hlen : l.length = r.length
  · simp [ef76, rs, rt, hlen]
    refine wpC_loop (fun q st => ∃ i : Nat, q = l.length - i ∧ i ≤ l.length ∧ (∀ j, j < i → l[j]? = r[j]?) ∧ st = ⟨[(0, v), (1, w), (5, i64 i)], h.freeze⟩) l.length (by show l.length < 2 ^ 64; omega) ?_ ?_
    · simp [St.tidy, rs, rt]
      exact ⟨0, by omega, by omega, fun j hj => absurd hj (by omega), rfl⟩
    · rintro q hq _ ⟨i, rfl, hi, hb, rfl⟩
      by_cases hlt : i < l.length
      · have hlt' : i < r.length := by omega
        have w1' := w1 (i := i) (by omega)
        simp only [W] at w1'
        have gl := cI_at' hlt
        have gr := cI_at' hlt'
        have e1 : l[i]? = some l[i] := List.getElem?_eq_getElem hlt
        have e2 : r[i]? = some r[i] := List.getElem?_eq_getElem hlt'
        by_cases q1 : l[i] = r[i]
        · have nx : ∀ j, j < i + 1 → l[j]? = r[j]? := fun j hj => by
            by_cases e : j = i
            · rw [e, e1, e2, q1]
            · exact hb j (by omega)
          simp [hlt, hlt', rs, rt, gl, gr, q1, w1', St.tidy]
          exact ⟨⟨l.length - (i + 1), by omega, i + 1, rfl, by omega, nx, rfl⟩, fun q => absurd q (by omega)⟩
        · have ne : ¬ l = r := fun q => by subst q; exact q1 rfl
          simp [hlt, hlt', rs, rt, gl, gr, q1, ne]
      · obtain rfl : i = l.length := by omega
        have eq : l = r := by
          apply List.ext_getElem?
          intro j
          by_cases hj : j < l.length
          · exact hb j hj
          · rw [List.getElem?_eq_none (by omega), List.getElem?_eq_none (by omega)]
        subst eq
        simp [rs]
  · have ne : ¬ l = r := fun q => hlen (by rw [q])
    have ne2 : ¬ ((l.length : Int) = (r.length : Int)) := by omega
    simp [ef76, rs, rt, ne, ne2]
theorem cI_snoc (l : List Int) (x : Int) : cI l ++ [i64 x] = cI (l ++ [x]) := by simp [cI]
end T
end Go.Abs
/- The law TemperCompares. -/
namespace Go.Abs
namespace T
set_option maxRecDepth 100000
set_option maxHeartbeats 0
theorem SlI_own {h : Heap} {b n : Nat} {l : List Int} {rw : Bool} (e : h.get b = some ⟨cI l, rw⟩) (hn : n = l.length) : SlI h (.slice (some ⟨b, 0, none⟩) n 1) l := by
  subst hn
  exact ⟨rfl, by simp [cI], fun _ => rfl, .inr ⟨b, 0, l.length, 1, rfl, Heap.get_lt e⟩, fun k _ => by simp only [slB_some, slO_some, Nat.zero_add]; rw [cell_get e]⟩
end T
end Go.Abs
/- Lists of tests; sizes of beats; Rises: both. -/
namespace Go.Abs
namespace T
set_option maxRecDepth 100000
set_option maxHeartbeats 0
abbrev X4 := Int × Int × Int × Int
def encX (x : X4) : List Value := [i64 x.1, i64 x.2.1, i64 x.2.2.1, i64 x.2.2.2]
def cX (l : List X4) : List Value := cS encX l
theorem cX_len (l : List X4) : (cX l).length = l.length * 4 := cS_len (f := encX) (es := 4) (fun _ => rfl) l
def atX (l : List X4) (i : Nat) : X4 := l[i]?.getD (0, 0, 0, 0)
theorem cX_part {l : List X4} {i : Nat} (h : i < l.length) : ((cX l).drop (i * 4)).take 4 = [i64 (atX l i).1, i64 (atX l i).2.1, i64 (atX l i).2.2.1, i64 (atX l i).2.2.2] := by
  have := cS_part (f := encX) (es := 4) (fun _ => rfl) l i h
  unfold cX atX; rw [this, List.getElem?_eq_getElem h]; rfl
abbrev SlX (h : Heap) (v : Value) (l : List X4) : Prop := Sl 4 h v l.length (cX l)
theorem SlX_own {h : Heap} {b n : Nat} {l : List X4} {rw : Bool} (e : h.get b = some ⟨cX l, rw⟩) (hn : n = l.length) : SlX h (.slice (some ⟨b, 0, none⟩) n 4) l := by
  subst hn
  exact ⟨rfl, cX_len l, fun _ => rfl, .inr ⟨b, 0, l.length, 4, rfl, Heap.get_lt e⟩, fun k hk => by simp only [slB_some, slO_some, Nat.zero_add]; rw [cell_get e]⟩
theorem cX_plain (l : List X4) : (cX l).all plainV = true := by
  rw [List.all_eq_true]
  intro x hx
  simp only [cX, cS, List.mem_flatMap, encX] at hx
  obtain ⟨p, _, hp⟩ := hx
  simp at hp
  rcases hp with rfl | rfl | rfl | rfl <;> rfl
theorem wP1 {n : Nat} (h : n < 1000000) (h0 : n ≠ 0) : IntKind.wrap .i64 ((n : Int) - 1) = ((n - 1 : Nat) : Int) := by rw [wrap_eq (by omega) (by omega)]; omega
end T
end Go.Abs
/- Rises: the program's. -/
namespace Go.Abs
namespace T
set_option maxRecDepth 100000
set_option maxHeartbeats 0
end T
end Go.Abs
/- The law TemperRises. -/
namespace Go.Abs
namespace T
set_option maxRecDepth 100000
set_option maxHeartbeats 0
theorem plain_one_all {l : List Value} (h : l.all plainV = true) : l.all Value.oneCell' = true := by
  rw [List.all_eq_true] at h ⊢
  exact fun x hx => plain_one (h x hx)
end T
end Go.Abs
