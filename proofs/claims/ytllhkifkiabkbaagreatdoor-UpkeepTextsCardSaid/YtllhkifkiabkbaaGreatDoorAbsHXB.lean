/- Texts of chapter 7: lists of counts compared; one reading checked. -/
import Derived.Test.YtllhkifkiabkbaaGreatDoorAbsHXA
set_option linter.unusedSimpArgs false
set_option linter.unusedVariables false
/- Texts of chapter 7: lists of counts compared; one reading checked. -/
namespace Go.Abs
namespace H.U
set_option maxRecDepth 100000
set_option maxHeartbeats 0
set_option linter.unusedSimpArgs false
theorem at6_ext {l m : List P6} (hl : l.length = m.length) (h : ∀ i, i < l.length → at6 l i = at6 m i) : l = m := by
  apply List.ext_getElem hl
  intro i h1 h2
  have := h i h1
  unfold at6 at this
  rw [List.getElem?_eq_getElem h1, List.getElem?_eq_getElem h2] at this
  exact this
theorem c24 {d lim : Nat} {h : Heap} {v w : Value} {l m : List P6} (s : Sl6 h v l) (t : Sl6 h w m) (hl : l.length ≤ 100000) : E.call (d + 1) lim 24 [v, w] h = some (.bool (decide (l = m)), h) := by
  have r := s.rules2
  have r' := t.rules2
  refine call1 fn24 rfl (by simp [ef24]) ?_
  by_cases hlen : l.length = m.length
  · have hlen' : (l.length : Int) = m.length := by omega
    simp [ef24, r, r', hlen, hlen']
    refine wpC_loop (fun y st => ∃ i : Nat, y = l.length - i ∧ i ≤ l.length ∧ (∀ j, j < i → at6 l j = at6 m j) ∧ st = ⟨[(0, v), (1, w), (5, i64 (i : Int))], h.freeze⟩) l.length (by show l.length < 2 ^ 64; omega) ?_ ?_
    · simp [St.tidy, r, r']
      exact ⟨0, by omega, by omega, fun j hj => by omega, rfl⟩
    · rintro y hy _ ⟨i, rfl, hi, ha, rfl⟩
      by_cases hlt : i < l.length
      · have hltm : i < m.length := by omega
        have w1' : IntKind.wrap .i64 ((i : Int) + 1) = ((i + 1 : Nat) : Int) := by rw [wrap_eq (by omega) (by omega)]; rfl
        have p := c6_part hlt
        have p' := c6_part hltm
        have k6 : i * 6 + 6 ≤ l.length * 6 := by omega
        have k6' : i * 6 + 6 ≤ m.length * 6 := by omega
        have hlti : (i : Int) < m.length := by omega
        by_cases eq : at6 l i = at6 m i
        · have eqi := eq
          rw [eq] at p
          rcases hx : at6 m i with ⟨⟨a1, a2, a3, a4⟩, b1, b2⟩
          rw [hx] at p p'
          simp only [enc6, enc4, enc2, List.cons_append, List.nil_append] at p p'
          simp [hlen, hltm, Nat.not_le.2 hltm, hlti, p, p', k6, k6', w1', r, r', St.tidy]
          exact ⟨m.length - (i + 1), by omega, i + 1, by omega, by omega, fun j hj => by
            by_cases q : j = i
            · subst q; exact eqi
            · exact ha j (by omega), by omega⟩
        · have ne : decide (l = m) = false := decide_eq_false fun q => eq (by rw [q])
          rcases hx : at6 l i with ⟨⟨a1, a2, a3, a4⟩, b1, b2⟩
          rcases hz : at6 m i with ⟨⟨c1, c2, c3, c4⟩, d1, d2⟩
          rw [hx, hz] at eq
          rw [hx] at p
          rw [hz] at p'
          simp only [enc6, enc4, enc2, List.cons_append, List.nil_append] at p p'
          rw [ne]
          simp [hlen, hltm, hlti, p, p', k6, k6', w1', r, r', St.tidy]
          intro e1 e2 e3 e4 e5 e6
          exact absurd (by rw [e1, e2, e3, e4, e5, e6]) eq
      · obtain rfl : i = l.length := by omega
        have : l = m := at6_ext hlen ha
        rw [decide_eq_true this]
        simp [hlen, r, r']
  · have ne : decide (l = m) = false := decide_eq_false fun q => hlen (by rw [q])
    have hlen' : ¬ (l.length : Int) = m.length := by omega
    rw [ne]
    simp [ef24, r, r', hlen, hlen']
theorem c21 {d lim k : Nat} {h : Heap} {a b : Int} {rw : Bool} (g : h.get k = some ⟨[i64 a, i64 b], rw⟩) : E.call (d + 3) lim 21 [.slice (some ⟨k, 0, none⟩) 1 2] h = some (i64 (rdE a b), h) := by
  refine call1 fn21 rfl (by simp [ef21]) ?_
  have g' : h.freeze.get k = some ⟨[i64 a, i64 b], false⟩ := hget_freeze g
  have hk := Heap.get_lt g
  have ck := fun o => cell_get (o := o) g
  unfold rdE
  by_cases q1 : within a 0 100000 = true <;> by_cases q2 : within b 0 1000 = true <;> simp [ef21, wpC_unroll, wpI_step, E_fuel', g', ck, hk, c58, c41, q1, q2, St.tidy]
end H.U
end Go.Abs
/- Texts of chapter 7: counts written by the reference. -/
namespace Go.Abs
namespace H.U
set_option maxRecDepth 100000
set_option maxHeartbeats 0
set_option linter.unusedSimpArgs false
/-- The six numbers of a count. -/
def six (c : P6) : List Int := [c.1.1, c.1.2.1, c.1.2.2.1, c.1.2.2.2, c.2.1, c.2.2]
def R6 (c : P6) : Prop := ∀ n ∈ six c, R64 n
/-- The text of the first counts. -/
def prU (l : List P6) : Nat → List UInt8
  | 0 => []
  | i + 1 => prU l i ++ (rowL (six (at6 l i)) ++ [10])
theorem prU_len {l : List P6} (hR : ∀ i, i < l.length → R6 (at6 l i)) : ∀ i, i ≤ l.length → (prU l i).length ≤ 133 * i
  | 0, _ => by simp [prU]
  | i + 1, h => by
    have a := prU_len hR i (by omega)
    have b := rowL_len (six (at6 l i)) (hR i (by omega))
    have c : (six (at6 l i)).length = 6 := rfl
    rw [prU, List.length_append, List.length_append, List.length_singleton]
    omega
theorem prU_lines (l : List P6) : ∀ i, i ≤ l.length → prU l i = linesL ((l.take i).map fun c => rowL (six c))
  | 0, _ => rfl
  | i + 1, h => by
    rw [prU, prU_lines l i (by omega), List.take_succ_eq_append_getElem (by omega), List.map_append]
    unfold linesL at6
    rw [List.getElem?_eq_getElem (by omega)]
    simp
theorem c28 {d lim : Nat} {h : Heap} {v : Value} {l : List P6} (s : Sl6 h v l) (hl : l.length ≤ 100) (hR : ∀ i, i < l.length → R6 (at6 l i)) : E.call (d + 3) lim 28 [v] h = some (tx (prU l l.length), h) := by
  have r := s.rules2
  refine call1 fn28 rfl (by simp [ef28]) ?_
  simp [ef28]
  refine wpC_loop (fun y st => ∃ i : Nat, y = l.length - i ∧ i ≤ l.length ∧ st = ⟨[(0, v), (3, tx (prU l i)), (4, i64 (i : Int))], h.freeze⟩) l.length (by show l.length < 2 ^ 64; omega) ?_ ?_
  · simp [St.tidy, r]
    exact ⟨0, by omega, by omega, rfl, rfl⟩
  · rintro y hy _ ⟨i, rfl, hi, rfl⟩
    by_cases hlt : i < l.length
    · have w1' : IntKind.wrap .i64 ((i : Int) + 1) = ((i + 1 : Nat) : Int) := by rw [wrap_eq (by omega) (by omega)]; rfl
      have p := c6_part hlt
      have k6 : i * 6 + 6 ≤ l.length * 6 := by omega
      have hlti : (i : Int) < l.length := by omega
      have pl := prU_len hR i (by omega)
      have on : prU l (i + 1) = prU l i ++ (rowL (six (at6 l i)) ++ [10]) := rfl
      have hr := hR i hlt
      rcases hx : at6 l i with ⟨⟨n1, n2, n3, n4⟩, n5, n6⟩
      rw [hx] at p on hr
      simp only [enc6, enc4, enc2, List.cons_append, List.nil_append] at p
      have r1 : R64 n1 := hr n1 (by simp [six])
      have r2 : R64 n2 := hr n2 (by simp [six])
      have r3 : R64 n3 := hr n3 (by simp [six])
      have r4 : R64 n4 := hr n4 (by simp [six])
      have r5 : R64 n5 := hr n5 (by simp [six])
      have r6 : R64 n6 := hr n6 (by simp [six])
      have d1 := fun H' : Heap => H.c60 (d := d) (lim := h.length) (h := H') r1
      have d2 := fun H' : Heap => H.c60 (d := d) (lim := h.length) (h := H') r2
      have d3 := fun H' : Heap => H.c60 (d := d) (lim := h.length) (h := H') r3
      have d4 := fun H' : Heap => H.c60 (d := d) (lim := h.length) (h := H') r4
      have d5 := fun H' : Heap => H.c60 (d := d) (lim := h.length) (h := H') r5
      have d6 := fun H' : Heap => H.c60 (d := d) (lim := h.length) (h := H') r6
      have l1 := dec_len r1
      have l2 := dec_len r2
      have l3 := dec_len r3
      have l4 := dec_len r4
      have l5 := dec_len r5
      have l6 := dec_len r6
      have ro : rowL (six ((n1, n2, n3, n4), n5, n6)) = dec n1 ++ 32 :: (dec n2 ++ 32 :: (dec n3 ++ 32 :: (dec n4 ++ 32 :: (dec n5 ++ 32 :: dec n6)))) := rfl
      rw [ro] at on
      generalize dec n1 = t1 at *
      generalize dec n2 = t2 at *
      generalize dec n3 = t3 at *
      generalize dec n4 = t4 at *
      generalize dec n5 = t5 at *
      generalize dec n6 = t6 at *
      generalize hq : prU l i = q at *
      have A : ∀ x y : List UInt8, x.length ≤ 100000 → y.length ≤ 100000 → E.bin .add (tx x) (tx y) = some (tx (x ++ y)) := fun x y hx hy => bin_sadd (by omega)
      have b1 := A q t1 (by omega) (by omega)
      have b2 := A (q ++ t1) [32] (by simp; omega) (by simp)
      have b3 := A (q ++ t1 ++ [32]) t2 (by simp; omega) (by omega)
      have b4 := A (q ++ t1 ++ [32] ++ t2) [32] (by simp; omega) (by simp)
      have b5 := A (q ++ t1 ++ [32] ++ t2 ++ [32]) t3 (by simp; omega) (by omega)
      have b6 := A (q ++ t1 ++ [32] ++ t2 ++ [32] ++ t3) [32] (by simp; omega) (by simp)
      have b7 := A (q ++ t1 ++ [32] ++ t2 ++ [32] ++ t3 ++ [32]) t4 (by simp; omega) (by omega)
      have b8 := A (q ++ t1 ++ [32] ++ t2 ++ [32] ++ t3 ++ [32] ++ t4) [32] (by simp; omega) (by simp)
      have b9 := A (q ++ t1 ++ [32] ++ t2 ++ [32] ++ t3 ++ [32] ++ t4 ++ [32]) t5 (by simp; omega) (by omega)
      have b10 := A (q ++ t1 ++ [32] ++ t2 ++ [32] ++ t3 ++ [32] ++ t4 ++ [32] ++ t5) [32] (by simp; omega) (by simp)
      have b11 := A (q ++ t1 ++ [32] ++ t2 ++ [32] ++ t3 ++ [32] ++ t4 ++ [32] ++ t5 ++ [32]) t6 (by simp; omega) (by omega)
      have b12 := A (q ++ t1 ++ [32] ++ t2 ++ [32] ++ t3 ++ [32] ++ t4 ++ [32] ++ t5 ++ [32] ++ t6) [10] (by simp; omega) (by simp)
      have fin : q ++ t1 ++ [32] ++ t2 ++ [32] ++ t3 ++ [32] ++ t4 ++ [32] ++ t5 ++ [32] ++ t6 ++ [10] = prU l (i + 1) := by rw [on]; simp
      rw [fin] at b12
      generalize q ++ t1 ++ [32] ++ t2 ++ [32] ++ t3 ++ [32] ++ t4 ++ [32] ++ t5 ++ [32] ++ t6 = q11 at *
      generalize q ++ t1 ++ [32] ++ t2 ++ [32] ++ t3 ++ [32] ++ t4 ++ [32] ++ t5 ++ [32] = q10 at *
      generalize q ++ t1 ++ [32] ++ t2 ++ [32] ++ t3 ++ [32] ++ t4 ++ [32] ++ t5 = q9 at *
      generalize q ++ t1 ++ [32] ++ t2 ++ [32] ++ t3 ++ [32] ++ t4 ++ [32] = q8 at *
      generalize q ++ t1 ++ [32] ++ t2 ++ [32] ++ t3 ++ [32] ++ t4 = q7 at *
      generalize q ++ t1 ++ [32] ++ t2 ++ [32] ++ t3 ++ [32] = q6 at *
      generalize q ++ t1 ++ [32] ++ t2 ++ [32] ++ t3 = q5 at *
      generalize q ++ t1 ++ [32] ++ t2 ++ [32] = q4 at *
      generalize q ++ t1 ++ [32] ++ t2 = q3 at *
      generalize q ++ t1 ++ [32] = q2 at *
      generalize q ++ t1 = q1 at *
      generalize hp : prU l (i + 1) = pn at *
      have z1 : IntKind.i64.wrap 1 = 1 := by decide
      have z2 : IntKind.i64.wrap 2 = 2 := by decide
      have z3 : IntKind.i64.wrap 3 = 3 := by decide
      have z4 : IntKind.i64.wrap 4 = 4 := by decide
      have z5 : IntKind.i64.wrap 5 = 5 := by decide
      have z6 : IntKind.i64.wrap 6 = 6 := by decide
      simp [-collect_own1, collect_box, s.own, z1, z2, z3, z4, z5, z6, hlt, hlti, Nat.not_le.2 hlt, p, k6, w1', r, St.tidy, fillL, fun C => @wpC_unroll C (some [0, 3, 4, 6, 7]), wpI_step, E_fuel', d1, d2, d3, d4, d5, d6, b1, b2, b3, b4, b5, b6, b7, b8, b9, b10, b11, b12]
      exact ⟨l.length - (i + 1), by omega, i + 1, by omega, by omega, hp.symm, by omega⟩
    · obtain rfl : i = l.length := by omega
      simp [r]
end H.U
end Go.Abs
/- Texts of chapter 7: counts read by the reference. -/
namespace Go.Abs
namespace H.U
set_option maxRecDepth 100000
set_option maxHeartbeats 0
set_option linter.unusedSimpArgs false
def toP6 (l : List Int) : P6 := ((gI l 0, gI l 1, gI l 2, gI l 3), (gI l 4, gI l 5))
theorem six_of {l : List Int} (h : l.length = 6) : ∃ a b c d e f, l = [a, b, c, d, e, f] := by
  match l, h with
  | [a, b, c, d, e, f], _ => exact ⟨a, b, c, d, e, f, rfl⟩
/-- The rows of the first lines. -/
def rowsR (R : List UInt8 → Int × Bool) (W : List (List UInt8)) : Nat → List (List Int)
  | 0 => []
  | i + 1 => rowsR R W i ++ [(nmP R 6 (wdA W i)).1]
theorem rowsR_len (R : List UInt8 → Int × Bool) (W : List (List UInt8)) : ∀ i, (rowsR R W i).length = i
  | 0 => rfl
  | i + 1 => by rw [rowsR, List.length_append, rowsR_len R W i]; rfl
def outU (R : List UInt8 → Int × Bool) (W : List (List UInt8)) (i : Nat) : List P6 := (rowsR R W i).map toP6
theorem outU_len (R : List UInt8 → Int × Bool) (W : List (List UInt8)) (i : Nat) : (outU R W i).length = i := by simp [outU, rowsR_len]
theorem outU_succ (R : List UInt8 → Int × Bool) (W : List (List UInt8)) (i : Nat) : outU R W (i + 1) = outU R W i ++ [toP6 (nmP R 6 (wdA W i)).1] := by simp [outU, rowsR]
theorem rdL_run {R : List UInt8 → Int × Bool} {W : List (List UInt8)} : ∀ i, i < W.length → (∀ j, j < i → (nmP R 6 (wdA W j)).2 = true) → rdL R 6 W [] = rdL R 6 (W.drop i) (rowsR R W i)
  | 0, _, _ => rfl
  | i + 1, h, ha => by
    rw [rdL_run i (by omega) fun j hj => ha j (by omega)]
    have e : W.drop i = W[i]'(by omega) :: W.drop (i + 1) := List.drop_eq_getElem_cons (by omega)
    have w : wdA W i = W[i]'(by omega) := by unfold wdA; rw [List.getElem?_eq_getElem (by omega)]; rfl
    have ne : W.drop (i + 1) ≠ [] := fun q => by
      have := congrArg List.length q
      rw [List.length_drop] at this; simp at this; omega
    have g := ha i (by omega)
    rw [w] at g
    rw [e, rdL_full ne, if_pos g, rowsR, w]
theorem rdL_bad {R : List UInt8 → Int × Bool} {W : List (List UInt8)} {i : Nat} (h : i + 1 < W.length) (ha : ∀ j, j < i → (nmP R 6 (wdA W j)).2 = true) (hb : (nmP R 6 (wdA W i)).2 = false) : rdL R 6 W [] = ([], i + 1, 7) := by
  rw [rdL_run i (by omega) ha]
  have e : W.drop i = W[i]'(by omega) :: W.drop (i + 1) := List.drop_eq_getElem_cons (by omega)
  have w : wdA W i = W[i]'(by omega) := by unfold wdA; rw [List.getElem?_eq_getElem (by omega)]; rfl
  have ne : W.drop (i + 1) ≠ [] := fun q => by
    have := congrArg List.length q
    rw [List.length_drop] at this; simp at this; omega
  rw [w] at hb
  rw [e, rdL_full ne, if_neg (by rw [hb]; decide), rowsR_len]
theorem rdL_last {R : List UInt8 → Int × Bool} {W : List (List UInt8)} {n : Nat} (h : W.length = n + 1) (ha : ∀ j, j < n → (nmP R 6 (wdA W j)).2 = true) : rdL R 6 W [] = if wdA W n = [] then (rowsR R W n, 0, 0) else ([], n + 1, 7) := by
  rw [rdL_run n (by omega) ha]
  have e : W.drop n = [W[n]'(by omega)] := by
    rw [List.drop_eq_getElem_cons (by omega), List.drop_of_length_le (by omega)]
  have w : wdA W n = W[n]'(by omega) := by unfold wdA; rw [List.getElem?_eq_getElem (by omega)]; rfl
  rw [e, rdL, w, rowsR_len]
/-- What is read of a text. -/
def prsU (R : List UInt8 → Int × Bool) (s : List UInt8) : List P6 × Nat × Int :=
  if 60000 < s.length then ([], 0, 8) else if (rdL R 6 (cutB 10 s) []).2.2 = 0 then (if chkN ((rdL R 6 (cutB 10 s) []).1.map toP6) = 0 then ((rdL R 6 (cutB 10 s) []).1.map toP6, 0, 0) else ([], 0, chkN ((rdL R 6 (cutB 10 s) []).1.map toP6))) else ([], (rdL R 6 (cutB 10 s) []).2.1, 7)
def lV6 (b : Nat) (L : List P6) : Value := if L = [] then .slice none 0 0 else .slice (some ⟨b, 0, none⟩) L.length 6
def lB6 (L : List P6) : List (Option Blk) := if L = [] then [] else [some ⟨cS enc6 L, true⟩]
theorem c6_pl (l : List P6) : (cS enc6 l).all plainV = true := by simp [cS, List.all_flatMap, enc6, enc4, enc2, plainV]
theorem c6_ln (l : List P6) : (cS enc6 l).length = l.length * 6 := cS_len (f := enc6) (es := 6) (fun _ => rfl) l
theorem c6_snoc (L : List P6) (a b c d e f : Int) : cS enc6 L ++ [i64 a, i64 b, i64 c, i64 d, i64 e, i64 f] = cS enc6 (L ++ [((a, b, c, d), (e, f))]) := by simp [cS, enc6, enc4, enc2]
theorem sl6_nil (h : Heap) : Sl6 h (.slice none 0 0) [] := ⟨rfl, rfl, fun q => absurd rfl q, .inl rfl, fun k hk => by simp at hk⟩
theorem c23 {d lim : Nat} {h : Heap} {s : List UInt8} (hl : s.length < 100000) : E.call (d + 6) lim 23 [tx s] h = some (.tuple #[lV6 h.length (prsU (rdn 10) s).1, i64 ((prsU (rdn 10) s).2.1 : Nat), i64 (prsU (rdn 10) s).2.2], h ++ lB6 (prsU (rdn 10) s).1) := by
  refine call_pure fn23 rfl (by simp [ef23]) ?_
  by_cases h3 : 60000 < s.length
  · have h3' : (60000 : Int) < s.length := by omega
    simp [ef23, h3', prsU, h3, lV6, lB6]
  have h3' : ¬ (60000 : Int) < s.length := by omega
  have kSp : ∀ H' : Heap, E.call (d + 5) h.length 49 [tx s, .int .u8 10] H' = some (H.lVT H'.length (cutB 10 s), H' ++ H.lBT (cutB 10 s)) := fun H' => H.c49 (d := d + 4) (c := 10) (by omega)
  have wl := fun i => wdA_len 10 s i
  have wn := cut_cnt 10 s
  have w0 := List.length_pos_iff.2 (cutB_ne 10 s)
  have wne : ¬ cutB 10 s = [] := cutB_ne 10 s
  simp only [H.lVT, H.lBT, if_neg wne] at kSp
  obtain ⟨res, hres⟩ : ∃ res, res = prsU (rdn 10) s := ⟨_, rfl⟩
  rw [← hres]
  unfold prsU at hres
  rw [if_neg h3] at hres
  generalize cutB 10 s = W at *
  obtain ⟨n, hn⟩ : ∃ n, W.length = n + 1 := ⟨W.length - 1, by omega⟩
  have wn1 : IntKind.i64.wrap (n : Int) = (n : Int) := wrap_eq (by omega) (by omega)
  have cw := H.cT_plain' W
  simp [-collect_own1, ef23, h3', kSp, hn, wn1]
  refine wpC_loop (fun y st => ∃ i : Nat, y = n - i ∧ i ≤ n ∧ (∀ j, j < i → (nmP (rdn 10) 6 (wdA W j)).2 = true) ∧ st = ⟨[(5, .slice (some ⟨h.length, 0, none⟩) (n + 1) 1), (6, i64 (n : Int)), (7, lV6 (h.length + 1) (outU (rdn 10) W i)), (8, i64 (i : Nat))], h.freeze ++ ([some ⟨H.cT W, true⟩] ++ lB6 (outU (rdn 10) W i))⟩) n (by show n < 2 ^ 64; omega) ?_ ?_
  · simp [-collect_own1, St.tidy, collect_box, cw]
    exact ⟨0, by omega, by omega, fun j hj => by omega, ⟨rfl, rfl⟩, rfl⟩
  · rintro y hy _ ⟨i, rfl, hi, ha, rfl⟩
    have ol := outU_len (rdn 10) W i
    have op := c6_pl (outU (rdn 10) W i)
    have clen := c6_ln (outU (rdn 10) W i)
    rw [ol] at clen
    by_cases hlt : i < n
    · have hlt' : (i : Int) < n := by omega
      have i1 : (i : Int) < (n : Int) + 1 := by omega
      have w1' : IntKind.i64.wrap ((i : Int) + 1) = ((i + 1 : Nat) : Int) := by rw [wrap_eq (by omega) (by omega)]; rfl
      have gi := wdA_get (ws := W) (i := i) (by omega)
      have qn : ∀ H' : Heap, E.call (d + 5) h.length 57 [tx (wdA W i), i64 6, i64 10] H' = some (.tuple #[lVI H'.length (nmP (rdn 10) 6 (wdA W i)).1, .bool (nmP (rdn 10) 6 (wdA W i)).2], H' ++ lBI (nmP (rdn 10) 6 (wdA W i)).1) := fun H' => c57 (d := d) (cnt := 6) (k := 10) (by have := wl i; omega) (by omega) (by omega)
      have os := outU_succ (rdn 10) W i
      rcases hx : nmP (rdn 10) 6 (wdA W i) with ⟨L, u⟩
      rw [hx] at qn os
      rcases u with _ | _
      · have bad := rdL_bad (R := rdn 10) (W := W) (i := i) (by omega) ha (by rw [hx])
        rw [bad] at hres
        simp only at hres
        rw [if_neg (by decide)] at hres
        subst hres
        simp [hn, hlt, hlt', i1, gi, qn, w1', lV6, lB6]
      · have l6 : L.length = 6 := by have := nmP_len (R := rdn 10) (cnt := 6) (s := wdA W i) (by rw [hx]); rw [hx] at this; exact this
        obtain ⟨a, b, c, e, f, g, rfl⟩ := six_of l6
        simp only [lVI, lBI, if_neg (show ¬ [a, b, c, e, f, g] = [] by simp)] at qn
        have ce : cI [a, b, c, e, f, g] = [i64 a, i64 b, i64 c, i64 e, i64 f, i64 g] := rfl
        simp only [ce] at qn
        have os' : outU (rdn 10) W (i + 1) = outU (rdn 10) W i ++ [((a, b, c, e), (f, g))] := os
        have sn := c6_snoc (outU (rdn 10) W i) a b c e f g
        rw [← os'] at sn
        have op2 := c6_pl (outU (rdn 10) W (i + 1))
        have ne1 : ¬ outU (rdn 10) W (i + 1) = [] := fun z => by have := outU_len (rdn 10) W (i + 1); rw [z] at this; cases this
        have ha' : ∀ j, j < i + 1 → (nmP (rdn 10) 6 (wdA W j)).2 = true := fun j hj => by
          by_cases q : j = i
          · subst q; rw [hx]
          · exact ha j (by omega)
        rcases Nat.eq_zero_or_pos i with z | z
        · subst z
          have o0 : outU (rdn 10) W 0 = [] := rfl
          have sn0 : [i64 a, i64 b, i64 c, i64 e, i64 f, i64 g] = cS enc6 (outU (rdn 10) W 1) := sn
          simp [-collect_own1, o0, lV6, lB6, hn, hlt, hlt', i1, gi, qn, w1', fillL, zeros, E.append, E.added, St.tidy, collect_box, cw]
          exact ⟨by decide, n - 1, by omega, 1, by omega, by omega, ha', ⟨by rw [if_neg ne1, outU_len], by omega⟩, by rw [if_neg ne1, ← sn0]⟩
        · have ne : ¬ outU (rdn 10) W i = [] := fun z => by rw [z] at ol; simp at ol; omega
          simp [-collect_own1, lV6, lB6, ne, hn, hlt, hlt', i1, gi, qn, ol, w1', fillL, zeros, E.append, E.added, clen, sn, op2, Nat.add_assoc, St.tidy, collect_box, cw]
          exact ⟨⟨by omega, by unfold maxLen; omega⟩, n - (i + 1), by omega, i + 1, by omega, by omega, ha', ⟨by rw [if_neg ne1, outU_len], by omega⟩, by rw [if_neg ne1]⟩
    · obtain rfl : i = n := by omega
      have last := rdL_last (R := rdn 10) (W := W) hn ha
      have gn := wdA_get (ws := W) (i := i) (by omega)
      have i1 : (i : Int) < (i : Int) + 1 := by omega
      have w1' : IntKind.i64.wrap ((i : Int) + 1) = ((i + 1 : Nat) : Int) := by rw [wrap_eq (by omega) (by omega)]; rfl
      by_cases em : wdA W i = []
      · rw [if_pos em] at last
        rw [last] at hres
        simp only [if_true] at hres
        rw [em] at gn
        rw [show (rowsR (rdn 10) W i).map toP6 = outU (rdn 10) W i from rfl] at hres
        by_cases e : outU (rdn 10) W i = []
        · rw [e] at hres ⊢
          have k27 : ∀ H' : Heap, E.call (d + 5) h.length 27 [.slice none 0 0] H' = some (i64 (chkN []), H') := fun H' => c27 (d := d) (sl6_nil H')
          by_cases z : chkN [] = 0
          · rw [if_pos z] at hres
            subst hres
            simp [hn, i1, gn, lV6, lB6, k27, z]
          · rw [if_neg z] at hres
            subst hres
            simp [hn, i1, gn, lV6, lB6, k27, z]
        · have gb : Heap.get (h.freeze ++ [some ⟨H.cT W, true⟩, some ⟨cS enc6 (outU (rdn 10) W i), true⟩]) (h.length + 1) = some ⟨cS enc6 (outU (rdn 10) W i), true⟩ := by rw [hget_base (by simp)]; rfl
          have k27 := c27 (d := d) (lim := h.length) (Sl_own (f := enc6) (es := 6) (n := i) (fun _ => rfl) gb ol.symm)
          by_cases z : chkN (outU (rdn 10) W i) = 0
          · rw [if_pos z] at hres
            subst hres
            simp [hn, i1, gn, lV6, lB6, e, ol, op, k27, z]
          · rw [if_neg z] at hres
            subst hres
            simp [hn, i1, gn, lV6, lB6, e, ol, op, k27, z]
      · rw [if_neg em] at last
        rw [last] at hres
        simp only at hres
        rw [if_neg (by decide)] at hres
        subst hres
        simp [hn, i1, gn, em, w1', lV6, lB6]
end H.U
end Go.Abs
