/- Chapter 6: which temperaments are valid. -/
import Derived.Test.YtfbelnhibipndaaGreatDoorAbsZCM
set_option linter.unusedSimpArgs false
set_option linter.unusedVariables false
/- Chapter 6: which temperaments are valid. -/
namespace Go.Abs
namespace Z
set_option maxRecDepth 100000
set_option maxHeartbeats 0
abbrev SlI (h : Heap) (v : Value) (l : List Int) : Prop := Sl 1 h v l.length (cI l)
def sumW (l : List Int) : Int := l.foldl (fun a x => W (a + x)) 0
theorem sumW_take {l : List Int} {i : Nat} (h : i < l.length) : sumW (l.take (i + 1)) = W (sumW (l.take i) + l[i]) := by
  unfold sumW; rw [List.take_succ_eq_append_getElem h, List.foldl_append]; rfl
theorem cI_at {l : List Int} {i : Nat} (h : i < l.length) : (cI l)[i]? = some (i64 l[i]) := by simp [cI, h]
theorem cI_at' {l : List Int} {i : Nat} (h : i < l.length) (hh : i < (cI l).length) : (cI l)[i]'hh = i64 l[i] := by simp [cI]
theorem c129 {d lim : Nat} {h : Heap} {v : Value} {l : List Int} (s : SlI h v l) (hl : l.length < 100000) : E.call (d + 1) lim 129 [v] h = some (i64 (sumW l), h) := by
  have p := s.rules2
  refine call1 fn129 rfl (by simp [ef129]) ?_
  simp [ef129, p]
  refine wpC_loop (fun q st => ∃ i, q = l.length - i ∧ i ≤ l.length ∧ st = ⟨[(3, i64 (sumW (l.take i))), (6, v), (7, i64 (l.length : Nat)), (8, i64 (i : Nat))], h.freeze⟩) l.length (by show l.length < 2 ^ 64; omega) ?_ ?_
  · simp [St.tidy, p]
    exact ⟨0, by omega, by omega, by simp [sumW], rfl⟩
  · rintro q hq _ ⟨i, rfl, hi, rfl⟩
    by_cases hlt : i < l.length
    · have w1' := w1 (i := i) (by omega)
      have hs := sumW_take hlt
      have g := cI_at' hlt
      simp only [W] at w1' hs
      simp [hlt, p, g, w1', St.tidy, ← hs]
      exact ⟨l.length - (i + 1), by omega, i + 1, rfl, by omega, rfl, rfl⟩
    · have e : i = l.length := by omega
      subst e
      simp [p]
def oddB (x : Int) : Bool := decide (x < -48) || decide (48 < x)
theorem c127 {d lim : Nat} {h : Heap} {x : Int} : E.call (d + 1) lim 127 [i64 x] h = some (.bool (oddB x), h) := by
  refine call1 fn127 rfl (by simp [ef127]) ?_
  simp [ef127, oddB]
  grind
abbrev oddF : Value := .func (.func 127) #[] #[]
theorem colF {h : Heap} {v : Value} {a b : Int} (hv : LowS h v) : collect h.length [v, oddF, i64 a, i64 b] h.freeze = some ([v, oddF, i64 a, i64 b], []) := by
  rcases hv with rfl | ⟨b, p, m, t, rfl, hb⟩ <;> simp [*]
theorem c123 {d lim : Nat} {h : Heap} {v : Value} {l : List Int} (s : SlI h v l) (hl : l.length < 100000) : ∃ n, E.call (d + 2) lim 123 [v, oddF] h = some (i64 n, h) ∧ (0 ≤ n ↔ l.any oddB = true) := by
  have p := s.rules2
  have kF := fun a b => colF (a := a) (b := b) s.low
  obtain ⟨_, _, e, n, rfl, rfl, hn⟩ := call_pure_ex (E := E) (d := d + 1) (lim := lim) (h := h) (args := [v, oddF]) (Q := fun v bs => ∃ n, v = i64 n ∧ bs = [] ∧ (0 ≤ n ↔ l.any oddB = true)) fn123 rfl (by simp [ef123]) (by
    simp [ef123, p]
    refine wpC_loop (fun q st => ∃ i, q = l.length - i ∧ i ≤ l.length ∧ (∀ x ∈ l.take i, oddB x = false) ∧ st = ⟨[(0, v), (1, oddF), (7, i64 (l.length : Nat)), (8, i64 (i : Nat))], h.freeze⟩) l.length (by show l.length < 2 ^ 64; omega) ?_ ?_
    · simp [St.tidy, p, kF]
      exact ⟨0, by omega, by omega, fun x hx => by simp at hx, rfl⟩
    · rintro q hq _ ⟨i, rfl, hi, hb, rfl⟩
      by_cases hlt : i < l.length
      · have w1' := w1 (i := i) (by omega)
        have g := cI_at' hlt
        simp only [W] at w1'
        by_cases ho : oddB l[i] = true
        · simp [hlt, p, g, c127, ho]
          exact ⟨l[i], List.getElem_mem hlt, ho⟩
        · simp only [Bool.not_eq_true] at ho
          simp [hlt, p, g, c127, ho, w1', St.tidy, kF]
          refine ⟨l.length - (i + 1), by omega, i + 1, rfl, by omega, fun x hx => ?_, rfl⟩
          rw [List.take_succ_eq_append_getElem hlt, List.mem_append] at hx
          rcases hx with hx | hx
          · exact hb x hx
          · simp at hx; rw [hx]; exact ho
      · have e : i = l.length := by omega
        subst e
        rw [List.take_length] at hb
        simp [p]
        exact hb)
  exact ⟨n, by simpa using e, hn⟩
theorem c112 {d lim : Nat} {h : Heap} {v : Value} {l : List Int} (s : SlI h v l) (hl : l.length < 100000) : E.call (d + 3) lim 112 [v, oddF] h = some (.bool (l.any oddB), h) := by
  obtain ⟨n, e, hn⟩ := c123 (d := d) (lim := h.length) (Sl_freeze.2 s) hl
  refine call1 fn112 rfl (by simp [ef112]) ?_
  have : decide (0 ≤ n) = l.any oddB := by rw [Bool.eq_iff_iff]; simpa using hn
  simp [ef112, e, this]
def cBo (l : List Bool) : List Value := l.map .bool
abbrev SlBo (h : Heap) (v : Value) (l : List Bool) : Prop := Sl 1 h v l.length (cBo l)
theorem cBo_at' {l : List Bool} {i : Nat} (h : i < l.length) (hh : i < (cBo l).length) : (cBo l)[i]'hh = .bool l[i] := by simp [cBo]
@[simp] theorem cBo_len (l : List Bool) : (cBo l).length = l.length := by simp [cBo]
theorem colB {h : Heap} {v : Value} {a b : Int} (hv : LowS h v) : collect h.length [v, .bool false, i64 a, i64 b] h.freeze = some ([v, .bool false, i64 a, i64 b], []) := by
  rcases hv with rfl | ⟨b, p, m, t, rfl, hb⟩ <;> simp [*]
theorem c166 {d lim : Nat} {h : Heap} {v : Value} {l : List Bool} (s : SlBo h v l) (hl : l.length < 100000) : ∃ n, E.call (d + 1) lim 166 [v, .bool false] h = some (i64 n, h) ∧ (0 ≤ n ↔ l.all id = false) := by
  have p := s.rules2
  have kF := fun a b => colB (a := a) (b := b) s.low
  obtain ⟨_, _, e, n, rfl, rfl, hn⟩ := call_pure_ex (E := E) (d := d) (lim := lim) (h := h) (args := [v, .bool false]) (Q := fun v bs => ∃ n, v = i64 n ∧ bs = [] ∧ (0 ≤ n ↔ l.all id = false)) fn166 rfl (by simp [ef166]) (by
    simp [ef166, p]
    refine wpC_loop (fun q st => ∃ i, q = l.length - i ∧ i ≤ l.length ∧ (∀ x ∈ l.take i, x = true) ∧ st = ⟨[(0, v), (1, .bool false), (7, i64 (l.length : Nat)), (8, i64 (i : Nat))], h.freeze⟩) l.length (by show l.length < 2 ^ 64; omega) ?_ ?_
    · simp [St.tidy, p, kF]
      exact ⟨0, by omega, by omega, by simp, rfl⟩
    · rintro q hq _ ⟨i, rfl, hi, hb, rfl⟩
      by_cases hlt : i < l.length
      · have w1' := w1 (i := i) (by omega)
        have g := cBo_at' hlt
        simp only [W] at w1'
        by_cases ho : l[i] = true
        · simp [hlt, p, g, ho, w1', St.tidy, kF]
          refine ⟨l.length - (i + 1), by omega, i + 1, rfl, by omega, fun q => ?_, rfl⟩
          rw [List.take_succ_eq_append_getElem hlt, List.mem_append] at q
          rcases q with q | q
          · exact absurd (hb _ q) (by decide)
          · simp at q; rw [ho] at q; cases q
        · simp only [Bool.not_eq_true] at ho
          simp [hlt, p, g, ho]
          rw [← ho]; exact List.getElem_mem hlt
      · have e : i = l.length := by omega
        subst e
        rw [List.take_length] at hb
        simp [p]
        exact fun q => absurd (hb _ q) (by decide))
  exact ⟨n, by simpa using e, hn⟩
theorem c132 {d lim : Nat} {h : Heap} {v : Value} {l : List Bool} (s : SlBo h v l) (hl : l.length < 100000) : E.call (d + 2) lim 132 [v, .bool false] h = some (.bool (!l.all id), h) := by
  obtain ⟨n, e, hn⟩ := c166 (d := d) (lim := h.length) (Sl_freeze.2 s) hl
  refine call1 fn132 rfl (by simp [ef132]) ?_
  have : decide (0 ≤ n) = !l.all id := by rw [Bool.eq_iff_iff]; simpa using hn
  simp [ef132, e, this]
/-- Twelve numbers. -/
def l12 (P : Nat → Int) : List Int := (List.range 12).map P
theorem l12_len (P : Nat → Int) : (l12 P).length = 12 := by simp [l12]
/-- The error of a temperament. -/
def chkT (nm : ByteArray) (P S : Nat → Int) : Int :=
  if nameB nm = false then 4 else if (l12 P).any oddB = true ∨ (l12 S).any oddB = true then 2 else if sumW (l12 P) ≠ 12 ∨ sumW (l12 S) ≠ 0 then 25 else if 300 < mostN P S 3 then 8 else 0
theorem Tm.name' {C : List Value} {nm : ByteArray} {P S : Nat → Int} (t : Tm C nm P S) (hh : 0 < C.length) : C[0]'hh = .string nm := by
  have := t.name; rw [List.getElem?_eq_getElem hh] at this; exact Option.some.inj this
theorem Tm.slP {C : List Value} {nm : ByteArray} {P S : Nat → Int} (t : Tm C nm P S) {h : Heap} {b : Nat} {rw : Bool} (hb : h.get b = some ⟨C, rw⟩) : SlI h (.slice (some ⟨b, 1, none⟩) 12 1) (l12 P) :=
  ⟨by rw [l12_len]; rfl, by simp, fun _ => by rw [l12_len]; rfl, .inr ⟨b, 1, 12, 1, rfl, Heap.get_lt hb⟩, fun k hk => by
    rw [l12_len] at hk
    simp only [slB_some, slO_some]
    rw [cell_get hb, t.p k (by omega), cI_at (by rw [l12_len]; omega)]; simp [l12]⟩
theorem Tm.slS {C : List Value} {nm : ByteArray} {P S : Nat → Int} (t : Tm C nm P S) {h : Heap} {b : Nat} {rw : Bool} (hb : h.get b = some ⟨C, rw⟩) : SlI h (.slice (some ⟨b, 13, none⟩) 12 1) (l12 S) :=
  ⟨by rw [l12_len]; rfl, by simp, fun _ => by rw [l12_len]; rfl, .inr ⟨b, 13, 12, 1, rfl, Heap.get_lt hb⟩, fun k hk => by
    rw [l12_len] at hk
    simp only [slB_some, slO_some]
    rw [cell_get hb, t.s k (by omega), cI_at (by rw [l12_len]; omega)]; simp [l12]⟩
theorem c88 {d lim : Nat} {h : Heap} {C : List Value} {nm : ByteArray} {P S : Nat → Int} (t : Tm C nm P S) (hs : nm.size ≤ 1000) : E.call (d + 4) lim 88 [.agg C.toArray] h = some (i64 (chkT nm P S), h) := by
  refine call1 fn88 rfl (by simp [ef88]) ?_
  have k109 := fun lim hh => @c128 (d + 2) lim hh nm hs
  have gb : Heap.get (h.freeze ++ [some ⟨C, true⟩]) h.length = some ⟨C, true⟩ := by rw [hget_base0 (by simp)]; rfl
  have sP := t.slP gb
  have sS := t.slS gb
  have kP := fun lim => c112 (d := d) (lim := lim) sP (by rw [l12_len]; omega)
  have kS := fun lim => c112 (d := d) (lim := lim) sS (by rw [l12_len]; omega)
  have uP := fun lim => c129 (d := d + 2) (lim := lim) sP (by rw [l12_len]; omega)
  have uS := fun lim => c129 (d := d + 2) (lim := lim) sS (by rw [l12_len]; omega)
  have k112 := fun lim hh => c130 (d := d + 1) (lim := lim) (h := hh) t
  have gk : Heap.get (h.freeze ++ [some ⟨C, true⟩, some ⟨circK P S, true⟩]) (h.length + 1) = some ⟨circK P S, true⟩ := by rw [hget_base (by simp)]; rfl
  have k113 := fun lim => c131 (d := d + 2) (lim := lim) gk
  have hmx : 12 ≤ maxLen := by decide
  unfold chkT
  generalize hA : (l12 P).any oddB = A at *
  generalize hB : (l12 S).any oddB = B at *
  generalize hU : sumW (l12 P) = U at *
  generalize hV : sumW (l12 S) = V at *
  generalize hM : mostN P S 3 = M at *
  by_cases hn : nameB nm = true
  · cases A
    · cases B
      · by_cases e1 : U = 12
        · by_cases e2 : V = 0
          · by_cases e3 : 300 < M <;> simp [ef88, t.name', t.len, t.take, k109, hn, kP, kS, uP, uS, e1, e2, k112, k113, e3, hmx, E.bound]
          · simp [ef88, t.name', t.len, t.take, k109, hn, kP, kS, uP, uS, e1, e2, hmx, E.bound]
        · simp [ef88, t.name', t.len, t.take, k109, hn, kP, kS, uP, uS, e1, hmx, E.bound]
      · simp [ef88, t.name', t.len, t.take, k109, hn, kP, kS, hmx, E.bound]
    · simp [ef88, t.name', t.len, t.take, k109, hn, kP, hmx, E.bound]
  · simp only [Bool.not_eq_true] at hn
    simp [ef88, t.name', t.len, k109, hn]
theorem l12_take {P : Nat → Int} {i : Nat} (h : i < 12) : sumW ((l12 P).take (i + 1)) = W (sumW ((l12 P).take i) + P i) := by
  rw [sumW_take (by rw [l12_len]; exact h)]; simp [l12]
theorem l12_any {P : Nat → Int} : (l12 P).any oddB = true ↔ ∃ i, i < 12 ∧ oddB (P i) = true := by
  simp [l12]
theorem oddW (x : Int) : oddB x = !within x (-48) 48 := by
  unfold oddB within; grind
theorem c36 {d lim : Nat} {h : Heap} {C : List Value} {nm : ByteArray} {P S : Nat → Int} (t : Tm C nm P S) : E.call (d + 5) lim 36 [.agg C.toArray] h = some (i64 (chkT nm P S), h) := by
  refine call1 fn36 rfl (by simp [ef36]) ?_
  have k88 := fun lim hh => @c68 (d + 2) lim hh nm
  have k89 := fun lim hh => c69 (d := d) (lim := lim) (h := hh) t
  by_cases hn : nameB nm = true
  · simp [ef36, t.name', t.len, k88, hn]
    refine wpC_loop (fun q st => ∃ i, q = 12 - i ∧ i ≤ 12 ∧ (∀ j, j < i → oddB (P j) = false ∧ oddB (S j) = false) ∧ st = ⟨[(1, .pointer (some ⟨h.length, 0, none⟩)), (3, i64 (sumW ((l12 P).take i))), (4, i64 (sumW ((l12 S).take i))), (5, i64 (i : Nat))], h.freeze ++ [some ⟨C, true⟩]⟩) 12 (by show 12 < 2 ^ 64; decide) ?_ ?_
    · simp [St.tidy, t.plain]
      exact ⟨0, by omega, by omega, fun j hj => by omega, by simp [sumW], by simp [sumW], rfl⟩
    · rintro q hq _ ⟨i, rfl, hi, hb, rfl⟩
      by_cases hlt : i < 12
      · have w1' := w1 (i := i) (by omega)
        have p := t.p i hlt
        have s := t.s i hlt
        have i4 : (i : Int) < 12 := by omega
        have sp := l12_take (P := P) hlt
        have ss := l12_take (P := S) hlt
        simp only [W] at w1' sp ss
        by_cases o1 : oddB (P i) = true
        · have : chkT nm P S = 2 := by
            have : (l12 P).any oddB = true := l12_any.2 ⟨i, hlt, o1⟩
            simp [chkT, hn, this]
          have o1' := o1
          rw [oddW] at o1'
          simp at o1'
          simp [hlt, i4, p, s, c37, o1', this]
        · by_cases o2 : oddB (S i) = true
          · have : chkT nm P S = 2 := by
              have : (l12 S).any oddB = true := l12_any.2 ⟨i, hlt, o2⟩
              simp [chkT, hn, this]
            have o1' := o1
            have o2' := o2
            rw [oddW] at o1' o2'
            simp at o1' o2'
            simp [hlt, i4, p, s, c37, o1', o2', this]
          · have o1' := o1
            have o2' := o2
            rw [oddW] at o1' o2'
            simp at o1' o2'
            simp only [Bool.not_eq_true] at o1 o2
            simp [hlt, i4, p, s, c37, o1', o2', w1', ← sp, ← ss, St.tidy, t.plain]
            refine ⟨12 - (i + 1), by omega, i + 1, rfl, by omega, fun j hj => ?_, rfl, rfl, rfl⟩
            by_cases e : j = i
            · subst e; exact ⟨o1, o2⟩
            · exact hb j (by omega)
      · have e : i = 12 := by omega
        subst e
        have t1 : (l12 P).take 12 = l12 P := List.take_of_length_le (by rw [l12_len]; exact Nat.le_refl 12)
        have t2 : (l12 S).take 12 = l12 S := List.take_of_length_le (by rw [l12_len]; exact Nat.le_refl 12)
        rw [t1, t2]
        have a1 : (l12 P).any oddB = false := by
          rw [Bool.eq_false_iff]; intro q
          obtain ⟨j, hj, ho⟩ := l12_any.1 q
          rw [(hb j hj).1] at ho; cases ho
        have a2 : (l12 S).any oddB = false := by
          rw [Bool.eq_false_iff]; intro q
          obtain ⟨j, hj, ho⟩ := l12_any.1 q
          rw [(hb j hj).2] at ho; cases ho
        have mx : (300 < mostN P S 3) ↔ 300 < max (max (dif P S 0) (dif P S 1)) (dif P S 2) := by
          simp only [mostN]; omega
        unfold chkT
        rw [a1, a2, hn]
        generalize sumW (l12 P) = U at *
        generalize sumW (l12 S) = V at *
        generalize mostN P S 3 = M at *
        generalize dif P S 0 = d0 at *
        generalize dif P S 1 = d1 at *
        generalize dif P S 2 = d2 at *
        by_cases e1 : U = 12
        · by_cases e2 : V = 0
          · by_cases e3 : 300 < M
            · have e4 := mx.1 e3
              simp [t.len, t.take, e1, e2, k89, e3, e4]
              omega
            · have e4 : ¬ 300 < max (max d0 d1) d2 := fun q => e3 (mx.2 q)
              simp [t.len, t.take, e1, e2, k89, e3, e4]
              omega
          · simp [e1, e2]
        · simp [e1]
  · simp only [Bool.not_eq_true] at hn
    simp [ef36, t.name', t.len, k88, hn, chkT]
end Z
end Go.Abs
/- Chapter 6: notes and intervals. -/
namespace Go.Abs
namespace Z
set_option maxRecDepth 100000
set_option maxHeartbeats 0
theorem c89 {d lim : Nat} {h : Heap} {C : List Value} {nm : ByteArray} {P S : Nat → Int} {v : Value} {l : List Bool} (t : Tm C nm P S) (hs : nm.size ≤ 1000) (s : SlBo h v l) (hl : l.length < 100000) (h0 : chkT nm P S = 0) (ha : l.all id = true) :
    E.call (d + 5) lim 89 [.agg C.toArray, v] h = some (.tuple #[.pointer (some ⟨h.length, 0, none⟩), i64 0], h ++ [some ⟨circK P S, true⟩]) := by
  have k51 := fun lim hh => c88 (d := d) (lim := lim) (h := hh) t hs
  have k112 := fun lim hh => c130 (d := d + 2) (lim := lim) (h := hh) t
  have k138 := fun lim L => c132 (d := d + 2) (lim := lim) ((Sl_freeze.2 s).app (l := L)) hl
  have kp := Cir.plain (K := circK P S) (P := P) (S := S) rfl
  refine call_pure fn89 rfl (by simp [ef89]) ?_
  simp [ef89, t.len, t.take, k51, h0, k138, ha, k112, kp]
def noteX (P S : Nat → Int) (n : Nat) : X3 := plusX (clsX P S ((n + 9) % 12)) (((n + 9) / 12 : Nat) : Int) octX
def intX (P S : Nat → Int) (lo hi : Nat) : X3 := plusX (noteX P S hi) (-1) (noteX P S lo)
theorem w9 {n : Nat} (h : n < 1000000) : W ((n : Int) + 9) = ((n + 9 : Nat) : Int) := by unfold W; rw [wrap_eq (by omega) (by omega)]; rfl
theorem c222 {d lim : Nat} {h : Heap} {n : Nat} (hn : n < 1000) : E.call (d + 1) lim 222 [i64 n] h = some (.tuple #[i64 (((n + 9) % 12 : Nat) : Int), i64 (((n + 9) / 12 : Nat) : Int)], h) := by
  have e := w9 (n := n) (by omega)
  have w := wN (n := (n + 9) / 12) (by omega)
  have q1 := qm12 (n := n + 9)
  have q2 := qd12 (n := n + 9)
  simp only [W] at e w
  refine call1 fn222 rfl (by simp [ef222]) ?_
  generalize n + 9 = m at *
  generalize m % 12 = a at *
  generalize m / 12 = b at *
  simp [ef222, e, q1, q2, w]
theorem c188 {d lim : Nat} {h : Heap} {P S : Nat → Int} {b n : Nat} {rw : Bool} (hb : h.get b = some ⟨circK P S, rw⟩) (hn : n < 1000) : E.call (d + 2) lim 188 [.pointer (some ⟨b, 0, none⟩), i64 n] h = some (v3 (noteX P S n), h) := by
  have hlt := Heap.get_lt hb
  have cl := circK_len P S
  have k155 := fun lim hh => @c222 d lim hh n hn
  have l1 : (((n + 9) % 12 : Nat) : Int) < 12 := by omega
  have l0 : (0 : Int) ≤ (((n + 9) % 12 : Nat) : Int) := by omega
  have hp : h.part b (36 + (n + 9) % 12 * 3) 3 = some (v3 (clsX P S ((n + 9) % 12))) := by
    rw [part_get hb, if_pos (by simp only [cl]; omega)]
    have := over_get P S (k := (n + 9) % 12) (by omega)
    rw [List.drop_take, List.take_take, List.drop_drop, Nat.min_eq_left (by omega)] at this
    simp only [this]
  have hx : plusX (clsX P S ((n + 9) % 12)) (((n + 9) / 12 : Nat) : Int) octX = noteX P S n := rfl
  refine call1 fn188 rfl (by simp [ef188]) ?_
  generalize (n + 9) % 12 = a at *
  generalize (n + 9) / 12 = o at *
  simp [ef188, k155, l1, l0, hp, hlt, c165, c164, hx]
theorem c154 {d lim : Nat} {h : Heap} {P S : Nat → Int} {b lo hi : Nat} {rw : Bool} (hb : h.get b = some ⟨circK P S, rw⟩) (hl : lo < 1000) (hh : hi < 1000) : E.call (d + 3) lim 154 [.pointer (some ⟨b, 0, none⟩), i64 lo, i64 hi] h = some (v3 (intX P S lo hi), h) := by
  have hb2 : ∀ L, Heap.get (h.freeze ++ L) b = some ⟨circK P S, false⟩ := fun L => hget_append (hget_freeze hb)
  have k1 := fun lim L => c188 (d := d) (lim := lim) (hb2 L) hl
  have k2 := fun lim L => c188 (d := d) (lim := lim) (hb2 L) hh
  have hx : plusX (noteX P S hi) (-1) (noteX P S lo) = intX P S lo hi := rfl
  refine call1 fn154 rfl (by simp [ef154]) ?_
  simp [ef154, k1, k2, c164, hx]
end Z
end Go.Abs
/- Chapter 6: the numbers of a valid temperament are small. -/
namespace Go.Abs
namespace Z
set_option maxRecDepth 100000
set_option maxHeartbeats 0
theorem Weq {n : Int} (h : -1000000000000 ≤ n ∧ n ≤ 1000000000000) : W n = n := by unfold W; rw [wrap_eq (by omega) (by omega)]
/-- What a valid temperament keeps. -/
structure Okt (P S : Nat → Int) : Prop where
  p : ∀ i, i < 12 → -48 ≤ P i ∧ P i ≤ 48
  s : ∀ i, i < 12 → -48 ≤ S i ∧ S i ≤ 48
  sp : sumW (l12 P) = 12
  ss : sumW (l12 S) = 0
  spr : mostN P S 3 ≤ 300
theorem okt {nm : ByteArray} {P S : Nat → Int} (h : chkT nm P S = 0) : Okt P S ∧ nameB nm = true := by
  unfold chkT at h
  split at h
  · omega
  · rename_i hn
    split at h
    · omega
    · rename_i ha
      split at h
      · omega
      · rename_i hs
        split at h
        · omega
        · rename_i hm
          have ha1 : (l12 P).any oddB = false := by
            cases q : (l12 P).any oddB
            · rfl
            · exact absurd (.inl q) ha
          have ha2 : (l12 S).any oddB = false := by
            cases q : (l12 S).any oddB
            · rfl
            · exact absurd (.inr q) ha
          have key : ∀ {Q : Nat → Int}, (l12 Q).any oddB = false → ∀ i, i < 12 → -48 ≤ Q i ∧ Q i ≤ 48 := fun {Q} hq i hi => by
            have : oddB (Q i) = false := by
              rw [Bool.eq_false_iff]; intro z
              have := l12_any.2 ⟨i, hi, z⟩
              rw [hq] at this; cases this
            unfold oddB at this; simp at this; omega
          exact ⟨⟨key ha1, key ha2, by omega, by omega, by omega⟩, by simpa using hn⟩
/-- All three numbers are within bounds. -/
def B3 (x : X3) (M : Int) : Prop := (-M ≤ x.1 ∧ x.1 ≤ M) ∧ (-M ≤ x.2.1 ∧ x.2.1 ≤ M) ∧ (-M ≤ x.2.2 ∧ x.2.2 ≤ M)
def addZ (a : X3) (n : Int) (b : X3) : X3 := (a.1 + n * b.1, a.2.1 + n * b.2.1, a.2.2 + n * b.2.2)
theorem mulb {n b M N : Int} (hn : -N ≤ n ∧ n ≤ N) (hb : -M ≤ b ∧ b ≤ M) : -(N * M) ≤ n * b ∧ n * b ≤ N * M := by
  have h1 : n.natAbs ≤ N.natAbs := by omega
  have h2 : b.natAbs ≤ M.natAbs := by omega
  have h3 := Nat.mul_le_mul h1 h2
  rw [← Int.natAbs_mul, ← Int.natAbs_mul] at h3
  have hN : 0 ≤ N := by omega
  have hM : 0 ≤ M := by omega
  have := Int.mul_nonneg hN hM
  omega
theorem plusX_eq {a b : X3} {n M N K : Int} (ha : B3 a M) (hb : B3 b K) (hn : -N ≤ n ∧ n ≤ N) (h : M + N * K ≤ 1000000000000) (hM : 0 ≤ M) : plusX a n b = addZ a n b ∧ B3 (addZ a n b) (M + N * K) := by
  obtain ⟨a1, a2, a3⟩ := ha
  obtain ⟨b1, b2, b3⟩ := hb
  have m1 := mulb hn b1
  have m2 := mulb hn b2
  have m3 := mulb hn b3
  constructor
  · unfold plusX addZ
    rw [Weq (n := n * b.1) (by omega), Weq (n := n * b.2.1) (by omega), Weq (n := n * b.2.2) (by omega), Weq (by omega), Weq (by omega), Weq (by omega)]
  · unfold addZ; exact ⟨⟨by simp only; omega, by simp only; omega⟩, ⟨by simp only; omega, by simp only; omega⟩, ⟨by simp only; omega, by simp only; omega⟩⟩
def fifZ (p s : Int) : X3 := (-12 + 19 * p + 4 * s, 12 - 12 * p - 4 * s, s)
theorem fifX_eq {p s : Int} (hp : -48 ≤ p ∧ p ≤ 48) (hs : -48 ≤ s ∧ s ≤ 48) : fifX p s = fifZ p s ∧ B3 (fifZ p s) 1116 := by
  constructor
  · unfold fifX fifZ
    rw [Weq (n := 19 * p) (by omega), Weq (n := 4 * s) (by omega), Weq (n := -12 + 19 * p) (by omega), Weq (by omega), Weq (n := 12 * p) (by omega), Weq (n := 12 - 12 * p) (by omega), Weq (by omega)]
  · unfold fifZ; exact ⟨⟨by simp only; omega, by simp only; omega⟩, ⟨by simp only; omega, by simp only; omega⟩, ⟨by simp only; omega, by simp only; omega⟩⟩
def accZ (P S : Nat → Int) : Nat → X3
  | 0 => (0, 0, 0)
  | i + 1 => addZ (accZ P S i) 1 (fifZ (P i) (S i))
theorem accX_eq {P S : Nat → Int} (o : Okt P S) : ∀ i, i ≤ 12 → accX P S i = accZ P S i ∧ B3 (accZ P S i) (1116 * i)
  | 0, _ => ⟨rfl, by unfold accZ B3; simp⟩
  | i + 1, h => by
    obtain ⟨h1, h2⟩ := accX_eq o i (by omega)
    obtain ⟨f1, f2⟩ := fifX_eq (o.p i (by omega)) (o.s i (by omega))
    obtain ⟨g1, g2⟩ := plusX_eq (n := 1) (N := 1) h2 f2 (by omega) (by omega) (by omega)
    have e : accX P S (i + 1) = plusX (accX P S i) 1 (fifX (P i) (S i)) := rfl
    have e2 : accZ P S (i + 1) = addZ (accZ P S i) 1 (fifZ (P i) (S i)) := rfl
    rw [e, h1, f1, g1, e2]
    refine ⟨rfl, ?_⟩
    have : (1116 * ((i : Nat) : Int) + 1 * 1116) = 1116 * ((i + 1 : Nat) : Int) := by omega
    rw [this] at g2; exact g2
theorem B3.mono {x : X3} {M N : Int} (h : B3 x M) (k : M ≤ N) : B3 x N := by
  obtain ⟨⟨a, b⟩, ⟨c, d⟩, e, f⟩ := h
  exact ⟨⟨by omega, by omega⟩, ⟨by omega, by omega⟩, by omega, by omega⟩
def reaZ (P S : Nat → Int) (i : Nat) : X3 := addZ (accZ P S i) (-((7 * i / 12 : Nat) : Int)) octX
def clsZ (P S : Nat → Int) (k : Nat) : X3 := reaZ P S (7 * k % 12)
theorem B3_oct : B3 octX 12 := by simp [B3, octX]
theorem clsX_eq {P S : Nat → Int} (o : Okt P S) (k : Nat) : clsX P S k = clsZ P S k ∧ B3 (clsZ P S k) 20000 := by
  unfold clsX clsZ reaX reaZ
  have hm : 7 * k % 12 < 12 := by omega
  generalize 7 * k % 12 = i at *
  obtain ⟨h1, h2⟩ := accX_eq o i (by omega)
  obtain ⟨g1, g2⟩ := plusX_eq (n := -((7 * i / 12 : Nat) : Int)) (N := 7) h2 B3_oct (by omega) (by omega) (by omega)
  rw [h1, g1]
  exact ⟨rfl, g2.mono (by omega)⟩
theorem loN_le (f : Nat → Int) : ∀ (n c : Nat), c < n → loN f n ≤ f c
  | 0, _, h => by omega
  | n + 1, c, h => by
    show min (loN f n) (f n) ≤ f c
    by_cases e : c = n
    · subst e; omega
    · have := loN_le f n c (by omega); omega
theorem le_hiN (f : Nat → Int) : ∀ (n c : Nat), c < n → f c ≤ hiN f n
  | 0, _, h => by omega
  | n + 1, c, h => by
    show f c ≤ max (hiN f n) (f n)
    by_cases e : c = n
    · subst e; omega
    · have := le_hiN f n c (by omega); omega
theorem lohi_b {f : Nat → Int} {M : Int} (h : ∀ c, -M ≤ f c ∧ f c ≤ M) : ∀ n, (-M ≤ loN f n ∧ loN f n ≤ M) ∧ (-M ≤ hiN f n ∧ hiN f n ≤ M)
  | 0 => ⟨h 0, h 0⟩
  | n + 1 => by
    obtain ⟨h1, h2⟩ := lohi_b h n
    have := h n
    show (-M ≤ min (loN f n) (f n) ∧ min (loN f n) (f n) ≤ M) ∧ (-M ≤ max (hiN f n) (f n) ∧ max (hiN f n) (f n) ≤ M)
    omega
theorem c3_b {x : X3} {M : Int} (h : B3 x M) (k : Nat) : -M ≤ c3 x k ∧ c3 x k ≤ M := by
  obtain ⟨h1, h2, h3⟩ := h
  unfold c3; split
  · exact h1
  · split
    · exact h2
    · exact h3
theorem dif_le {P S : Nat → Int} (o : Okt P S) {k : Nat} (hk : k < 3) : dif P S k ≤ 300 := by
  have := o.spr
  simp only [mostN] at this
  match k, hk with
  | 0, _ => omega
  | 1, _ => omega
  | 2, _ => omega
/-- Two classes are no farther apart than the spread. -/
theorem cls_near {P S : Nat → Int} (o : Okt P S) {a b k : Nat} (ha : a < 12) (hb : b < 12) (hk : k < 3) : c3 (clsZ P S a) k - c3 (clsZ P S b) k ≤ 300 := by
  have hB : ∀ c, -20000 ≤ cof P S k c ∧ cof P S k c ≤ 20000 := fun c => by
    obtain ⟨e, h⟩ := clsX_eq o c
    unfold cof; rw [e]; exact c3_b h k
  have h1 := le_hiN (cof P S k) 12 a ha
  have h2 := loN_le (cof P S k) 12 b hb
  obtain ⟨b1, b2⟩ := lohi_b hB 12
  have h3 := dif_le o hk
  unfold dif at h3
  rw [Weq (by omega)] at h3
  have e1 : cof P S k a = c3 (clsZ P S a) k := by unfold cof; rw [(clsX_eq o a).1]
  have e2 : cof P S k b = c3 (clsZ P S b) k := by unfold cof; rw [(clsX_eq o b).1]
  omega
def noteZ (P S : Nat → Int) (n : Nat) : X3 := addZ (clsZ P S ((n + 9) % 12)) (((n + 9) / 12 : Nat) : Int) octX
def intZ (P S : Nat → Int) (lo hi : Nat) : X3 := addZ (noteZ P S hi) (-1) (noteZ P S lo)
theorem noteX_eq {P S : Nat → Int} (o : Okt P S) {n : Nat} (hn : n ≤ 99) : noteX P S n = noteZ P S n ∧ B3 (noteZ P S n) 20200 := by
  unfold noteX noteZ
  obtain ⟨h1, h2⟩ := clsX_eq o ((n + 9) % 12)
  obtain ⟨g1, g2⟩ := plusX_eq (n := (((n + 9) / 12 : Nat) : Int)) (N := 9) h2 B3_oct (by omega) (by omega) (by omega)
  rw [h1, g1]
  exact ⟨rfl, g2.mono (by omega)⟩
theorem intX_eq {P S : Nat → Int} (o : Okt P S) {lo hi : Nat} (hl : lo ≤ 99) (hh : hi ≤ 99) : intX P S lo hi = intZ P S lo hi := by
  unfold intX intZ
  obtain ⟨h1, h2⟩ := noteX_eq o hl
  obtain ⟨h3, h4⟩ := noteX_eq o hh
  obtain ⟨g1, g2⟩ := plusX_eq (n := -1) (N := 1) h4 h2 (by omega) (by omega) (by omega)
  rw [h1, h3, g1]
/-- An interval of two notes has small exponents. -/
theorem int_b {P S : Nat → Int} (o : Okt P S) {lo hi : Nat} (hl : lo ≤ 99) (hh : hi ≤ 99) (hd : ((hi + 9) / 12 : Nat) ≤ ((lo + 9) / 12 : Nat) + 8) (hd2 : ((lo + 9) / 12 : Nat) ≤ ((hi + 9) / 12 : Nat) + 8) :
    (-400 ≤ (intZ P S lo hi).1 ∧ (intZ P S lo hi).1 ≤ 400) ∧ (-300 ≤ (intZ P S lo hi).2.1 ∧ (intZ P S lo hi).2.1 ≤ 300) ∧ (-300 ≤ (intZ P S lo hi).2.2 ∧ (intZ P S lo hi).2.2 ≤ 300) := by
  have a := (lo + 9) % 12
  have n1 : ∀ k, k < 3 → c3 (clsZ P S ((hi + 9) % 12)) k - c3 (clsZ P S ((lo + 9) % 12)) k ≤ 300 := fun k hk => cls_near o (by omega) (by omega) hk
  have n2 : ∀ k, k < 3 → c3 (clsZ P S ((lo + 9) % 12)) k - c3 (clsZ P S ((hi + 9) % 12)) k ≤ 300 := fun k hk => cls_near o (by omega) (by omega) hk
  have p0 := n1 0 (by omega); have p1 := n1 1 (by omega); have p2 := n1 2 (by omega)
  have q0 := n2 0 (by omega); have q1 := n2 1 (by omega); have q2 := n2 2 (by omega)
  simp only [c3] at p0 p1 p2 q0 q1 q2
  simp at p0 p1 p2 q0 q1 q2
  simp only [intZ, noteZ, addZ, octX]
  omega
end Z
end Go.Abs
/- Chapter 6: pitches of notes; the law TemperNotes. -/
namespace Go.Abs
namespace Z
set_option maxRecDepth 100000
set_option maxHeartbeats 0
abbrev pit (x : X3) : Value := redV x.1 x.2.1 x.2.2 12
def R3 (x : X3) : Prop := R64 x.1 ∧ R64 x.2.1 ∧ R64 x.2.2
def isP (x : X3) : Bool := isPitch x.1 x.2.1 x.2.2 12
theorem c155 {d lim : Nat} {h : Heap} {x : X3} (r : isP x = true) : E.call (d + 4) lim 155 [v3 x] h = some (pit x, h) := by
  obtain ⟨a, b, c⟩ := x
  have k := fun lim hh => @c189 d lim hh a b c 12 r
  refine call1 fn155 rfl (by simp [ef155]) ?_
  simp [ef155, k]
theorem int_ok {P S : Nat → Int} (o : Okt P S) {lo hi : Nat} (hl : lo ≤ 87) (hh : hi ≤ 87) : isP (intX P S lo hi) = true ∧ R3 (intX P S lo hi) := by
  rw [intX_eq o (by omega) (by omega)]
  obtain ⟨h1, h2, h3⟩ := int_b o (lo := lo) (hi := hi) (by omega) (by omega) (by omega) (by omega)
  refine ⟨isPitch_mk h1 (by omega) (by omega) ⟨by omega, by omega⟩, ⟨by omega, by omega⟩, ⟨by omega, by omega⟩, ⟨by omega, by omega⟩⟩
theorem c9 {d lim : Nat} {h : Heap} {C : List Value} {nm : ByteArray} {P S : Nat → Int} (t : Tm C nm P S) : E.call (d + 1) lim 9 [.agg C.toArray] h = some (.bool (decide (nm.size ≤ 30)), h) := by
  refine call1 fn9 rfl (by simp [ef9]) ?_
  simp [ef9, t.name', t.len]
  omega
theorem SlBo2 {h : Heap} {b : Nat} {x y : Bool} {rw : Bool} (e : h.get b = some ⟨[.bool x, .bool y], rw⟩) : SlBo h (.slice (some ⟨b, 0, none⟩) 2 1) [x, y] :=
  ⟨rfl, rfl, fun _ => rfl, .inr ⟨b, 0, 2, 1, rfl, Heap.get_lt e⟩, fun k _ => by simp only [slB_some, slO_some, Nat.zero_add]; rw [cell_get e]; rfl⟩
theorem isNote_nat {n : Int} (h : isNote n = true) : ∃ m : Nat, n = m ∧ m ≤ 87 := by
  unfold isNote within at h
  simp at h
  exact ⟨n.toNat, by omega, by omega⟩
end Z
end Go.Abs
