/- Chapter 7: tests: their partials, their check. -/
import Derived.Test.YtfbelnhibipndaaAbsUD0
set_option linter.unusedSimpArgs false
set_option linter.unusedVariables false
/- Chapter 7: tests: their partials, their check. -/
namespace Go.Abs
namespace U
set_option maxRecDepth 100000
set_option maxHeartbeats 0
theorem wrapL {n : Int} (h1 : -9223372036854775808 ≤ n) (h2 : n < 9223372036854775808) : IntKind.wrap .i64 n = n := wrap_eq (by omega) (by omega)
/-- The exponents of a partial, and whether they are all. -/
def facX : Nat → P3
  | 1 => (0, 0, 0)
  | 2 => (12, 0, 0)
  | 3 => (0, 12, 0)
  | 4 => (24, 0, 0)
  | 5 => (0, 0, 12)
  | 6 => (12, 12, 0)
  | 7 => (0, 0, 0)
  | 8 => (36, 0, 0)
  | 9 => (0, 24, 0)
  | 10 => (12, 0, 12)
  | 11 => (0, 0, 0)
  | 12 => (24, 12, 0)
  | 13 => (0, 0, 0)
  | 14 => (12, 0, 0)
  | 15 => (0, 12, 12)
  | 16 => (48, 0, 0)
  | _ => (0, 0, 0)
def facB (n : Nat) : Bool := !(n == 7 || n == 11 || n == 13 || n == 14)
theorem part_cases {n : Nat} (h : 1 ≤ n ∧ n ≤ 16) : n = 1 ∨ n = 2 ∨ n = 3 ∨ n = 4 ∨ n = 5 ∨ n = 6 ∨ n = 7 ∨ n = 8 ∨ n = 9 ∨ n = 10 ∨ n = 11 ∨ n = 12 ∨ n = 13 ∨ n = 14 ∨ n = 15 ∨ n = 16 := by omega
theorem c110_1 {d lim : Nat} {h : Heap} : E.call (d + 1) lim 110 [i64 1] h = some (.tuple #[v3 (0, 0, 0), .bool true], h) := by
  refine call1 fn110 rfl (by simp [ef110]) ?_
  simp [ef110, wrapL, qmod, qdiv, wpC_unroll, wpI_step, E_fuel', St.tidy]
theorem c110_2 {d lim : Nat} {h : Heap} : E.call (d + 1) lim 110 [i64 2] h = some (.tuple #[v3 (12, 0, 0), .bool true], h) := by
  refine call1 fn110 rfl (by simp [ef110]) ?_
  simp [ef110, wrapL, qmod, qdiv, wpC_unroll, wpI_step, E_fuel', St.tidy]
theorem c110_3 {d lim : Nat} {h : Heap} : E.call (d + 1) lim 110 [i64 3] h = some (.tuple #[v3 (0, 12, 0), .bool true], h) := by
  refine call1 fn110 rfl (by simp [ef110]) ?_
  simp [ef110, wrapL, qmod, qdiv, wpC_unroll, wpI_step, E_fuel', St.tidy]
theorem c110_4 {d lim : Nat} {h : Heap} : E.call (d + 1) lim 110 [i64 4] h = some (.tuple #[v3 (24, 0, 0), .bool true], h) := by
  refine call1 fn110 rfl (by simp [ef110]) ?_
  simp [ef110, wrapL, qmod, qdiv, wpC_unroll, wpI_step, E_fuel', St.tidy]
theorem c110_5 {d lim : Nat} {h : Heap} : E.call (d + 1) lim 110 [i64 5] h = some (.tuple #[v3 (0, 0, 12), .bool true], h) := by
  refine call1 fn110 rfl (by simp [ef110]) ?_
  simp [ef110, wrapL, qmod, qdiv, wpC_unroll, wpI_step, E_fuel', St.tidy]
theorem c110_6 {d lim : Nat} {h : Heap} : E.call (d + 1) lim 110 [i64 6] h = some (.tuple #[v3 (12, 12, 0), .bool true], h) := by
  refine call1 fn110 rfl (by simp [ef110]) ?_
  simp [ef110, wrapL, qmod, qdiv, wpC_unroll, wpI_step, E_fuel', St.tidy]
theorem c110_7 {d lim : Nat} {h : Heap} : E.call (d + 1) lim 110 [i64 7] h = some (.tuple #[v3 (0, 0, 0), .bool false], h) := by
  refine call1 fn110 rfl (by simp [ef110]) ?_
  simp [ef110, wrapL, qmod, qdiv, wpC_unroll, wpI_step, E_fuel', St.tidy]
theorem c110_8 {d lim : Nat} {h : Heap} : E.call (d + 1) lim 110 [i64 8] h = some (.tuple #[v3 (36, 0, 0), .bool true], h) := by
  refine call1 fn110 rfl (by simp [ef110]) ?_
  simp [ef110, wrapL, qmod, qdiv, wpC_unroll, wpI_step, E_fuel', St.tidy]
theorem c110_9 {d lim : Nat} {h : Heap} : E.call (d + 1) lim 110 [i64 9] h = some (.tuple #[v3 (0, 24, 0), .bool true], h) := by
  refine call1 fn110 rfl (by simp [ef110]) ?_
  simp [ef110, wrapL, qmod, qdiv, wpC_unroll, wpI_step, E_fuel', St.tidy]
theorem c110_10 {d lim : Nat} {h : Heap} : E.call (d + 1) lim 110 [i64 10] h = some (.tuple #[v3 (12, 0, 12), .bool true], h) := by
  refine call1 fn110 rfl (by simp [ef110]) ?_
  simp [ef110, wrapL, qmod, qdiv, wpC_unroll, wpI_step, E_fuel', St.tidy]
theorem c110_11 {d lim : Nat} {h : Heap} : E.call (d + 1) lim 110 [i64 11] h = some (.tuple #[v3 (0, 0, 0), .bool false], h) := by
  refine call1 fn110 rfl (by simp [ef110]) ?_
  simp [ef110, wrapL, qmod, qdiv, wpC_unroll, wpI_step, E_fuel', St.tidy]
theorem c110_12 {d lim : Nat} {h : Heap} : E.call (d + 1) lim 110 [i64 12] h = some (.tuple #[v3 (24, 12, 0), .bool true], h) := by
  refine call1 fn110 rfl (by simp [ef110]) ?_
  simp [ef110, wrapL, qmod, qdiv, wpC_unroll, wpI_step, E_fuel', St.tidy]
theorem c110_13 {d lim : Nat} {h : Heap} : E.call (d + 1) lim 110 [i64 13] h = some (.tuple #[v3 (0, 0, 0), .bool false], h) := by
  refine call1 fn110 rfl (by simp [ef110]) ?_
  simp [ef110, wrapL, qmod, qdiv, wpC_unroll, wpI_step, E_fuel', St.tidy]
theorem c110_14 {d lim : Nat} {h : Heap} : E.call (d + 1) lim 110 [i64 14] h = some (.tuple #[v3 (12, 0, 0), .bool false], h) := by
  refine call1 fn110 rfl (by simp [ef110]) ?_
  simp [ef110, wrapL, qmod, qdiv, wpC_unroll, wpI_step, E_fuel', St.tidy]
theorem c110_15 {d lim : Nat} {h : Heap} : E.call (d + 1) lim 110 [i64 15] h = some (.tuple #[v3 (0, 12, 12), .bool true], h) := by
  refine call1 fn110 rfl (by simp [ef110]) ?_
  simp [ef110, wrapL, qmod, qdiv, wpC_unroll, wpI_step, E_fuel', St.tidy]
theorem c110_16 {d lim : Nat} {h : Heap} : E.call (d + 1) lim 110 [i64 16] h = some (.tuple #[v3 (48, 0, 0), .bool true], h) := by
  refine call1 fn110 rfl (by simp [ef110]) ?_
  simp [ef110, wrapL, qmod, qdiv, wpC_unroll, wpI_step, E_fuel', St.tidy]
theorem c110 {d lim : Nat} {h : Heap} {n : Nat} (hn : 1 ≤ n ∧ n ≤ 16) : E.call (d + 1) lim 110 [i64 n] h = some (.tuple #[v3 (facX n), .bool (facB n)], h) := by
  rcases part_cases hn with rfl | rfl | rfl | rfl | rfl | rfl | rfl | rfl | rfl | rfl | rfl | rfl | rfl | rfl | rfl | rfl
  · exact c110_1
  · exact c110_2
  · exact c110_3
  · exact c110_4
  · exact c110_5
  · exact c110_6
  · exact c110_7
  · exact c110_8
  · exact c110_9
  · exact c110_10
  · exact c110_11
  · exact c110_12
  · exact c110_13
  · exact c110_14
  · exact c110_15
  · exact c110_16
/-- The check of a test. -/
def chkX (n m p q : Int) : Int :=
  if within n 0 87 = true ∧ within m 0 87 = true ∧ within p 1 16 = true ∧ within q 1 16 = true then
    (if m ≤ n then 9 else if facB p.toNat = true ∧ facB q.toNat = true then 0 else 15) else 2
theorem part_nat {n : Int} (h : within n 1 16 = true) : ∃ m : Nat, n = m ∧ (1 ≤ m ∧ m ≤ 16) := by
  unfold within at h
  simp at h
  exact ⟨n.toNat, by omega, by omega⟩
theorem c108 {d lim : Nat} {h : Heap} {a : Int} : E.call (d + 1) lim 108 [i64 a] h = some (.bool (within a 0 87), h) := by
  refine call1 fn108 rfl (by simp [ef108]) ?_
  unfold within
  by_cases q : 0 ≤ a <;> simp [ef108, q]
theorem c109 {d lim : Nat} {h : Heap} {a : Int} : E.call (d + 1) lim 109 [i64 a] h = some (.bool (within a 1 16), h) := by
  refine call1 fn109 rfl (by simp [ef109]) ?_
  unfold within
  by_cases q : 1 ≤ a <;> simp [ef109, q]
abbrev v4 (n m p q : Int) : Value := .agg #[i64 n, i64 m, i64 p, i64 q]
theorem c89 {d lim : Nat} {h : Heap} {n m p q : Int} : E.call (d + 3) lim 89 [v4 n m p q] h = some (i64 (chkX n m p q), h) := by
  refine call1 fn89 rfl (by simp [ef89]) ?_
  by_cases hn : within n 0 87 = true
  · by_cases hm : within m 0 87 = true
    · by_cases hp : within p 1 16 = true
      · by_cases hq : within q 1 16 = true
        · by_cases hl : m ≤ n
          · simp [ef89, c108, c109, hn, hm, hp, hq, hl, chkX]
          · obtain ⟨x, rfl, hx⟩ := part_nat hp
            obtain ⟨y, rfl, hy⟩ := part_nat hq
            have k1 := fun lim hh => @c110 (d + 1) lim hh x hx
            have k2 := fun lim hh => @c110 (d + 1) lim hh y hy
            generalize facX x = X at *
            generalize facX y = Y at *
            obtain ⟨x1, x2, x3⟩ := X
            obtain ⟨y1, y2, y3⟩ := Y
            by_cases fx : facB x = true
            · by_cases fy : facB y = true
              · simp [ef89, c108, c109, hn, hm, hp, hq, hl, chkX, k1, k2, fx, fy, wpC_unroll, wpI_step, E_fuel', St.tidy, wrapL]
              · simp [ef89, c108, c109, hn, hm, hp, hq, hl, chkX, k1, k2, fx, fy, wpC_unroll, wpI_step, E_fuel', St.tidy, wrapL]
            · simp [ef89, c108, c109, hn, hm, hp, hq, hl, chkX, k1, k2, fx, wpC_unroll, wpI_step, E_fuel', St.tidy, wrapL]
        · simp [ef89, c108, c109, hn, hm, hp, hq, chkX]
      · simp [ef89, c108, c109, hn, hm, hp, chkX]
    · simp [ef89, c108, c109, hn, hm, chkX]
  · simp [ef89, c108, c109, hn, chkX]
end U
end Go.Abs
/- Chapter 7: lists of tests. -/
namespace Go.Abs
theorem Sl.sub {es : Nat} {h : Heap} {b o n : Nat} {cs : List Value} (s : Sl es h (.slice (some ⟨b, o, none⟩) n es) n cs) {a c : Nat} (hb : b < h.length) (ha : a ≤ c) (hc : c ≤ n) :
    Sl es h (.slice (some ⟨b, o + a * es, none⟩) (c - a) es) (c - a) ((cs.drop (a * es)).take ((c - a) * es)) := by
  have hz := s.size
  have h1 : (c - a) * es + a * es ≤ n * es := by rw [← Nat.add_mul]; exact Nat.mul_le_mul_right _ (by omega)
  refine ⟨rfl, by rw [List.length_take, List.length_drop, hz]; omega, fun _ => rfl, .inr ⟨_, _, _, _, rfl, hb⟩, fun k hk => ?_⟩
  have := s.cell (a * es + k) (by omega)
  simp only [slB_some, slO_some] at this ⊢
  rw [Nat.add_assoc, this, List.getElem?_take, if_pos hk, List.getElem?_drop]
theorem cS_app {α : Type} (f : α → List Value) (l m : List α) : cS f (l ++ m) = cS f l ++ cS f m := by simp [cS]
theorem cS_take {α : Type} {f : α → List Value} {es : Nat} (hf : ∀ a, (f a).length = es) (l : List α) {i : Nat} (hi : i ≤ l.length) : (cS f l).take (i * es) = cS f (l.take i) := by
  have e : cS f l = cS f (l.take i) ++ cS f (l.drop i) := by rw [← cS_app, List.take_append_drop]
  have hl : (cS f (l.take i)).length = i * es := by rw [cS_len hf, List.length_take, Nat.min_eq_left hi]
  rw [e, List.take_append_of_le_length (by omega), List.take_of_length_le (by omega)]
theorem cS_drop {α : Type} {f : α → List Value} {es : Nat} (hf : ∀ a, (f a).length = es) (l : List α) {i : Nat} (hi : i ≤ l.length) : (cS f l).drop (i * es) = cS f (l.drop i) := by
  have e : cS f l = cS f (l.take i) ++ cS f (l.drop i) := by rw [← cS_app, List.take_append_drop]
  have hl : (cS f (l.take i)).length = i * es := by rw [cS_len hf, List.length_take, Nat.min_eq_left hi]
  rw [e, List.drop_append_of_le_length (by omega), List.drop_of_length_le (by omega), List.nil_append]
/-- A part of a slice of structs. -/
theorem Sl.subS {α : Type} {f : α → List Value} {es : Nat} (hf : ∀ a, (f a).length = es) {h : Heap} {b o n : Nat} {l : List α} (s : Sl es h (.slice (some ⟨b, o, none⟩) n es) n (cS f l)) (hn : n = l.length) {a c : Nat} (hb : b < h.length) (ha : a ≤ c) (hc : c ≤ n) :
    Sl es h (.slice (some ⟨b, o + a * es, none⟩) (c - a) es) ((l.drop a).take (c - a)).length (cS f ((l.drop a).take (c - a))) := by
  have := s.sub hb ha hc
  rw [cS_drop hf l (by omega), cS_take hf _ (by rw [List.length_drop]; omega)] at this
  rw [show ((l.drop a).take (c - a)).length = c - a by rw [List.length_take, List.length_drop]; omega]
  exact this
namespace U
set_option maxRecDepth 100000
/-- Tests. -/
abbrev P4 := Int × Int × Int × Int
def at4 (l : List P4) (i : Nat) : P4 := (l[i]?).getD (0, 0, 0, 0)
theorem at4_get {l : List P4} {i : Nat} (h : i < l.length) : l[i] = at4 l i := by unfold at4; rw [List.getElem?_eq_getElem h]; rfl
def enc4 (x : P4) : List Value := [i64 x.1, i64 x.2.1, i64 x.2.2.1, i64 x.2.2.2]
abbrev vT (x : P4) : Value := v4 x.1 x.2.1 x.2.2.1 x.2.2.2
theorem c4_part {l : List P4} {i : Nat} (h : i < l.length) : ((cS enc4 l).drop (i * 4)).take 4 = [i64 (at4 l i).1, i64 (at4 l i).2.1, i64 (at4 l i).2.2.1, i64 (at4 l i).2.2.2] := by
  rw [cS_part (f := enc4) (es := 4) (fun _ => rfl) l i h, at4_get h]; rfl
theorem c4_0 {l : List P4} {i : Nat} (h : i < l.length) : (cS enc4 l)[i * 4]? = some (i64 (at4 l i).1) := by
  have := cS_get (f := enc4) (es := 4) (fun _ => rfl) l i 0 h (by omega)
  rw [Nat.add_zero] at this
  rw [this, at4_get h]; rfl
theorem c4_1 {l : List P4} {i : Nat} (h : i < l.length) : (cS enc4 l)[i * 4 + 1]? = some (i64 (at4 l i).2.1) := by
  rw [cS_get (f := enc4) (es := 4) (fun _ => rfl) l i 1 h (by omega), at4_get h]; rfl
abbrev Sl4 (h : Heap) (v : Value) (l : List P4) : Prop := Sl 4 h v l.length (cS enc4 l)
theorem c4_plain (l : List P4) : (cS enc4 l).all plainV = true := by simp [cS, List.all_flatMap, enc4, plainV]
theorem c4_one (l : List P4) : (cS enc4 l).all Value.oneCell' = true := by simp [cS, List.all_flatMap, enc4, Value.oneCell']
theorem at4_take {l : List P4} {i k : Nat} (h : k < i) : at4 (l.take i) k = at4 l k := by unfold at4; rw [List.getElem?_take, if_pos h]
def eq4 (x y : P4) : Bool := x.1 == y.1 && (x.2.1 == y.2.1 && (x.2.2.1 == y.2.2.1 && x.2.2.2 == y.2.2.2))
theorem eq4_iff {x y : P4} : eq4 x y = true ↔ x = y := by
  obtain ⟨a, b, c, e⟩ := x
  obtain ⟨a', b', c', e'⟩ := y
  simp [eq4]
theorem c111 {d lim : Nat} {h : Heap} {v : Value} {l : List P4} {x : P4} (s : Sl4 h v l) (hl : l.length ≤ 100000) :
    E.call (d + 1) lim 111 [v, vT x] h = some (i64 (if fstI (fun k => eq4 x (at4 l k)) l.length 0 < l.length then (fstI (fun k => eq4 x (at4 l k)) l.length 0 : Int) else -1), h) := by
  have r := s.rules2
  obtain ⟨n, m, p, q⟩ := x
  refine call1 fn111 rfl (by simp [ef111]) ?_
  generalize hI : fstI (fun k => eq4 (n, m, p, q) (at4 l k)) l.length 0 = I
  simp [ef111, r]
  refine wpC_loop (fun z st => ∃ i : Nat, z = l.length - i ∧ i ≤ l.length ∧ fstI (fun k => eq4 (n, m, p, q) (at4 l k)) l.length i = I ∧ st = ⟨[(0, v), (3, .pointer (some ⟨h.length, 0, none⟩)), (7, i64 (l.length : Int)), (8, i64 (i : Int))], h.freeze ++ [some ⟨[i64 n, i64 m, i64 p, i64 q], true⟩]⟩) l.length (by show l.length < 2 ^ 64; omega) ?_ ?_
  · simp [-collect_own1, St.tidy, collect_box, s.own, r]
    exact ⟨0, by omega, by omega, hI, by simp⟩
  · rintro z hz _ ⟨i, rfl, hi, hc, rfl⟩
    by_cases hlt : i < l.length
    · have hlti : (i : Int) < l.length := by omega
      have w1' := w1 (i := i) (by omega)
      have p4 := c4_part hlt
      have k4 : i * 4 + 4 ≤ l.length * 4 := by omega
      rw [fstI_lt hlt] at hc
      by_cases e : eq4 (n, m, p, q) (at4 l i) = true
      · rw [if_pos e] at hc
        subst hc
        unfold eq4 at e
        dsimp only at e
        simp [hlti, hlt, Nat.not_le.2 hlt, r, p4, k4, E.eqCells, e]
      · rw [if_neg e] at hc
        unfold eq4 at e
        dsimp only at e
        have e := Bool.eq_false_iff.2 e
        simp [-collect_own1, hlti, hlt, Nat.not_le.2 hlt, r, p4, k4, E.eqCells, e, w1', St.tidy, collect_box, s.own]
        exact ⟨l.length - (i + 1), by omega, i + 1, by omega, by omega, hc, by omega⟩
    · obtain rfl : i = l.length := by omega
      rw [fstI_ge (by omega)] at hc
      subst hc
      simp
def has4 (l : List P4) (x : P4) : Bool := decide (fstI (fun k => eq4 x (at4 l k)) l.length 0 < l.length)
theorem c90 {d lim : Nat} {h : Heap} {v : Value} {l : List P4} {x : P4} (s : Sl4 h v l) (hl : l.length ≤ 100000) : E.call (d + 2) lim 90 [v, vT x] h = some (.bool (has4 l x), h) := by
  have k111 := fun (L : Heap) lim => c111 (d := d) (lim := lim) (x := x) ((Sl_freeze.2 s).app L) hl
  unfold has4
  generalize fstI (fun k => eq4 x (at4 l k)) l.length 0 = I at *
  obtain ⟨n, m, p, q⟩ := x
  refine call1 fn90 rfl (by simp [ef90]) ?_
  by_cases z : I < l.length
  · simp [ef90, k111, z]
  · simp [ef90, k111, z]
theorem has4_iff {l : List P4} {x : P4} : has4 l x = true ↔ ∃ k, k < l.length ∧ at4 l k = x := by
  obtain ⟨a1, a2, a3, a4⟩ := fstI_spec (p := fun k => eq4 x (at4 l k)) (n := l.length) _ 0 rfl (by omega)
  unfold has4
  rw [decide_eq_true_eq]
  constructor
  · intro h; exact ⟨_, h, (eq4_iff.1 (a3 h)).symm⟩
  · rintro ⟨k, hk, e⟩
    rcases Nat.lt_or_ge (fstI (fun k => eq4 x (at4 l k)) l.length 0) l.length with z | z
    · exact z
    · have := a4 k (by omega) (by omega)
      rw [eq4_iff.2 e.symm] at this; cases this
/-- The error of a test among others. -/
def tErr (l : List P4) (i : Nat) : Int := if chkX (at4 l i).1 (at4 l i).2.1 (at4 l i).2.2.1 (at4 l i).2.2.2 = 0 then (if has4 (l.take i) (at4 l i) = true then 5 else 0) else chkX (at4 l i).1 (at4 l i).2.1 (at4 l i).2.2.1 (at4 l i).2.2.2
def chkTs (l : List P4) : Int := if 60 < l.length then 8 else fstE (tErr l) l.length 0
theorem c59 {d lim : Nat} {h : Heap} {v : Value} {l : List P4} (s : Sl4 h v l) : E.call (d + 4) lim 59 [v] h = some (i64 (chkTs l), h) := by
  have r := s.rules2
  refine call1 fn59 rfl (by simp [ef59]) ?_
  unfold chkTs
  by_cases hl : 60 < l.length
  · have hli : (60 : Int) < l.length := by omega
    simp [ef59, r, hl, hli, Int.not_le.2 hli]
  have hli : (l.length : Int) ≤ 60 := by omega
  rw [if_neg hl]
  generalize hI : fstE (tErr l) l.length 0 = I
  simp [ef59, r, Nat.not_lt.1 hl, hl, hli, Int.not_lt.2 hli]
  refine wpC_loop (fun z st => ∃ i : Nat, z = l.length - i ∧ i ≤ l.length ∧ fstE (tErr l) l.length i = I ∧ st = ⟨[(0, v), (9, v), (10, i64 (l.length : Int)), (11, i64 (i : Int))], h.freeze⟩) l.length (by show l.length < 2 ^ 64; omega) ?_ ?_
  · simp [St.tidy, r]
    exact ⟨0, by omega, by omega, hI, rfl⟩
  · rintro z hz _ ⟨i, rfl, hi, hc, rfl⟩
    by_cases hlt : i < l.length
    · have hlti : (i : Int) < l.length := by omega
      have w1' := w1 (i := i) (by omega)
      have p4 := c4_part hlt
      have k4 : i * 4 + 4 ≤ l.length * 4 := by omega
      rw [fstE_lt hlt] at hc
      have k89 := fun lim H => c89 (d := d) (lim := lim) (h := H) (n := (at4 l i).1) (m := (at4 l i).2.1) (p := (at4 l i).2.2.1) (q := (at4 l i).2.2.2)
      generalize hX : chkX (at4 l i).1 (at4 l i).2.1 (at4 l i).2.2.1 (at4 l i).2.2.2 = X at *
      by_cases e1 : X = 0
      case neg =>
        rw [show tErr l i = X by simp only [tErr, hX]; rw [if_neg e1], if_neg e1] at hc
        subst hc
        simp [hlti, hlt, Nat.not_le.2 hlt, r, p4, k4, k89, e1]
      obtain ⟨b, o, kk, hv, g, h2, h3, h4⟩ := s.blk (by omega) (by omega)
      have hb := Heap.get_lt g
      subst hv
      simp only [slB_some, slO_some] at r
      have s90 : ∀ L, Sl4 (h.freeze ++ L) (.slice (some ⟨b, o, none⟩) i 4) (l.take i) := fun L => by
        have := ((Sl_freeze.2 s).app L).subS (f := enc4) (es := 4) (fun _ => rfl) rfl (a := 0) (c := i) (by simp; omega) (by omega) (by omega)
        show Sl 4 _ _ _ _
        simpa using this
      have k90 := fun (L : Heap) lim => c90 (d := d + 1) (lim := lim) (x := at4 l i) (s90 L) (by simp; omega)
      have hle : i ≤ l.length := by omega
      by_cases e2 : has4 (l.take i) (at4 l i) = true
      · rw [show tErr l i = 5 by simp only [tErr, hX]; rw [if_pos e1, if_pos e2], if_neg (by omega)] at hc
        subst hc
        simp [hlti, hlt, hle, Nat.not_le.2 hlt, r, p4, k4, k89, k90, e1, e2, E.bound]
      · rw [show tErr l i = 0 by simp only [tErr, hX]; rw [if_pos e1, if_neg e2], if_pos rfl] at hc
        simp [hlti, hlt, hle, Nat.not_le.2 hlt, r, p4, k4, k89, k90, e1, e2, E.bound, w1', St.tidy]
        exact ⟨l.length - (i + 1), by omega, i + 1, by omega, by omega, hc, by omega⟩
    · obtain rfl : i = l.length := by omega
      rw [fstE_ge (by omega)] at hc
      subst hc
      simp
end U
end Go.Abs
/- Chapter 7: the reference's check of tests; copies of tests. -/
namespace Go.Abs
namespace U
set_option maxRecDepth 100000
theorem c41 {d lim : Nat} {h : Heap} {v : Value} {l : List P4} (s : Sl4 h v l) (hl : l.length ≤ 100000) :
    E.call (d + 1) lim 41 [v] h = some (.slice (some ⟨h.length, 0, none⟩) l.length 4, h ++ [some ⟨cS enc4 l, true⟩]) := by
  refine call_pure fn41 rfl (by simp [ef41]) ?_
  have A1 := fun (hn : l.length ≠ 0) => app_some (bytes := 32) (b := h.length) (H := h.freeze ++ [some ⟨[], true⟩]) ((Sl_freeze.2 s).app _) hn (by omega) (by rw [hget_base0 (by simp)]; rfl) (c4_one l) (by omega) (by omega)
  have A0 := fun (hn : l.length = 0) => app_none (es := 4) (bytes := 32) (b := h.length) (H := h.freeze ++ [some ⟨[], true⟩]) (cs := cS enc4 l) (by have := (Sl_freeze.2 s).app [some ⟨[], true⟩]; rwa [hn] at this) (by omega)
  have cp := c4_plain l
  rcases Nat.eq_zero_or_pos l.length with hz | hz
  · have e0 : cS enc4 l = [] := by rw [List.eq_nil_of_length_eq_zero hz]; rfl
    simp [ef41, zeros, fillL, A0, hz, e0, Blk_addrs_nil, Blk_ren_nil]
  · have n0 : l.length ≠ 0 := by omega
    simp [ef41, zeros, fillL, A1, n0, cp]
end U
end Go.Abs
