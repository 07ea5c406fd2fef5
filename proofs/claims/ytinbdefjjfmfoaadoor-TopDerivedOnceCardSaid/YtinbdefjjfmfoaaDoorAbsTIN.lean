/- Orders: followed, by both. -/
import Derived.Test.YtinbdefjjfmfoaaDoorAbsTIM
import Derived.Test.YtinbdefjjfmfoaaDoorAbsTHP
import Derived.Test.YtinbdefjjfmfoaaDoorAbsTyped
set_option linter.unusedSimpArgs false
set_option linter.unusedVariables false
/- Orders: followed, by both. -/
namespace Go.Abs
namespace T
set_option maxRecDepth 100000
set_option maxHeartbeats 0
abbrev X2 := Int × Int
def encY (x : X2) : List Value := [i64 x.1, i64 x.2]
def cY (l : List X2) : List Value := cS encY l
theorem cY_len (l : List X2) : (cY l).length = l.length * 2 := cS_len (f := encY) (es := 2) (fun _ => rfl) l
def atY (l : List X2) (i : Nat) : X2 := l[i]?.getD (0, 0)
theorem cY_part {l : List X2} {i : Nat} (h : i < l.length) : ((cY l).drop (i * 2)).take 2 = [i64 (atY l i).1, i64 (atY l i).2] := by
  have := cS_part (f := encY) (es := 2) (fun _ => rfl) l i h
  unfold cY atY; rw [this, List.getElem?_eq_getElem h]; rfl
theorem atY_get {l : List X2} {i : Nat} (h : i < l.length) : l[i] = atY l i := by unfold atY; rw [List.getElem?_eq_getElem h]; rfl
abbrev SlY (h : Heap) (v : Value) (l : List X2) : Prop := Sl 2 h v l.length (cY l)
theorem SlY_own {h : Heap} {b n : Nat} {l : List X2} {rw : Bool} (e : h.get b = some ⟨cY l, rw⟩) (hn : n = l.length) : SlY h (.slice (some ⟨b, 0, none⟩) n 2) l := by
  subst hn
  exact ⟨rfl, cY_len l, fun _ => rfl, .inr ⟨b, 0, l.length, 2, rfl, Heap.get_lt e⟩, fun k hk => by simp only [slB_some, slO_some, Nat.zero_add]; rw [cell_get e]⟩
theorem cY_plain (l : List X2) : (cY l).all plainV = true := by
  rw [List.all_eq_true]
  intro x hx
  simp only [cY, cS, List.mem_flatMap, encY] at hx
  obtain ⟨p, _, hp⟩ := hx
  simp at hp
  rcases hp with rfl | rfl <;> rfl
theorem arg_steps {d : Nat} {h : Heap} {u : Value} (t : Typ (d + 1) h (.sl [ctI, ctI]) u) : ∃ l : List X2, SlY h u l ∧ l.length ≤ maxLen := by
  obtain ⟨l, s, hl, _⟩ := typ_slG (k := 2) (by decide) encY (fun g => (g 0, g 1)) (fun _ => rfl) (fun g j hj => by
    have : j = 0 ∨ j = 1 := by omega
    rcases this with rfl | rfl <;> rfl) t
  exact ⟨l, s, hl⟩
/-- How far apart two notes are. -/
def dist (f t : Int) : Int := max (f - t) (t - f)
/-- An order, followed step by step: the fault, or from which note each one was tuned. -/
def fol (lo hi : Int) : List X2 → List X2 → Int × List X2
  | [], m => (0, m)
  | x :: r, m => if within x.1 lo hi = true ∧ within x.2 lo hi = true then
      (if mLook m x.1 = none then (24, []) else if mLook m x.2 ≠ none then (5, []) else if mLook ratL (dist x.1 x.2) = none then (15, []) else fol lo hi r (m ++ [(x.2, x.1)])) else (2, [])
def folR (lo hi : Int) (l : List X2) : Int × List X2 := if 100 < l.length then (8, []) else fol lo hi l [(48, 48)]
theorem fol_drop {lo hi : Int} {l : List X2} {i : Nat} (h : i < l.length) (m : List X2) : fol lo hi (l.drop i) m =
    if within (atY l i).1 lo hi = true ∧ within (atY l i).2 lo hi = true then
      (if mLook m (atY l i).1 = none then (24, []) else if mLook m (atY l i).2 ≠ none then (5, []) else if mLook ratL (dist (atY l i).1 (atY l i).2) = none then (15, []) else fol lo hi (l.drop (i + 1)) (m ++ [((atY l i).2, (atY l i).1)])) else (2, []) := by
  rw [List.drop_eq_getElem_cons h, atY_get h]; rfl
abbrev mV (m : List X2) : List Value := encMap ekI ekI m
theorem m_get (m : List X2) (k : Int) : E.mapVal (i64 k) (mV m) = some ((mLook m k).map ekI) := mapVal_enc (ek := ekI) (fun a b => sameKey_i64 a b) m k
theorem m_put {m : List X2} {k : Int} (h : mLook m k = none) (x : Int) : E.mapPut (i64 k) (i64 x) (mV m) = some (mV (m ++ [(k, x)])) := by
  have := mapPut_new (ek := ekI) (ev := ekI) (fun a b => sameKey_i64 a b) h (i64 x)
  rw [show E.mapPut (i64 k) (i64 x) (mV m) = E.mapPut (ekI k) (i64 x) (encMap ekI ekI m) from rfl, this]
  exact congrArg some (encMap_snoc (ek := ekI) (ev := ekI) m k x)
theorem m_no (m : List X2) : (mV m).all (lowV 0 4) = true := encMap_no (fun _ => lowV_plain rfl) (fun _ => lowV_plain rfl) m
theorem c149 {d lim : Nat} {h : Heap} {b1 b2 : Nat} {x lo hi : Int} {w1 w2 : Bool} (g1 : h.get b1 = some ⟨[i64 lo], w1⟩) (g2 : h.get b2 = some ⟨[i64 hi], w2⟩) : E.call (d + 1) lim 149 [i64 x, .pointer (some ⟨b1, 0, none⟩), .pointer (some ⟨b2, 0, none⟩)] h = some (.bool (within x lo hi), h) := by
  have l1 := Heap.get_lt g1
  have l2 := Heap.get_lt g2
  have c1 := fun o => cell_get (o := o) g1
  have c2 := fun o => cell_get (o := o) g2
  refine call1 fn149 rfl (by simp [ef149]) ?_
  by_cases q : lo ≤ x
  · simp [ef149, l1, l2, c1, c2, q, within]
  · simp [ef149, l1, l2, c1, c2, q, within]
def folV (n : Nat) (r : Int × List X2) : Value := if r.1 = 0 then .map (some n) else .map none
def folB (r : Int × List X2) : List (Option Blk) := if r.1 = 0 then [some ⟨mV r.2, true⟩] else []
theorem c125 {d lim : Nat} {h : Heap} {v : Value} {l : List X2} {lo hi : Int} (s : SlY h v l) (h1 : 0 ≤ lo) (h2 : hi ≤ 87) :
    E.call (d + 3) lim 125 [v, i64 lo, i64 hi] h = some (.tuple #[folV h.length (folR lo hi l), i64 (folR lo hi l).1], h ++ folB (folR lo hi l)) := by
  have r := s.rules2
  refine call_pure fn125 rfl (by simp [ef125]) ?_
  by_cases hl : 100 < l.length
  · have e1 : (100 : Int) < l.length := by omega
    have er : folR lo hi l = (8, []) := by simp [folR, hl]
    rw [er]
    simp [ef125, r, e1, Int.not_le.2 e1, folV, folB]
  · have e1 : (l.length : Int) ≤ 100 := by omega
    have er : folR lo hi l = fol lo hi l [(48, 48)] := by simp [folR, hl]
    rw [er]
    have m0 : (E.mapPut (i64 48) (i64 48) [] : Option (List Value)) = some (mV [(48, 48)]) := m_put (m := []) rfl 48
    rcases Nat.eq_zero_or_pos l.length with hz | hz
    · have e : l = [] := List.eq_nil_of_length_eq_zero hz
      subst e
      rcases s.low with rfl | ⟨b, o', m, t', rfl, hb'⟩
      · simp [ef125, wpC_unroll, wpI_step, E_fuel, St.tidy, fol, folV, folB, m0, m_no]
      · obtain rfl : m = 0 := by
          have := s.len
          simpa using this
        simp [ef125, wpC_unroll, wpI_step, E_fuel, St.tidy, fol, folV, folB, m0, m_no, hb']
    · obtain ⟨b, o', rfl⟩ : ∃ b o, v = .slice (some ⟨b, o, none⟩) l.length 2 := ⟨_, _, s.addr (by omega)⟩
      have hb' := s.lt (by omega)
      simp only [slB_some, slO_some] at r hb'
      simp [ef125, r, e1, Int.not_lt.2 e1, m0]
      refine wpC_loop (fun q st => ∃ (i : Nat) (m : List X2), q = l.length - i ∧ i ≤ l.length ∧ fol lo hi (l.drop i) m = fol lo hi l [(48, 48)] ∧
        st = ⟨[(8, .func (.func 149) #[] #[.pointer (some ⟨h.length, 0, none⟩), .pointer (some ⟨h.length + 1, 0, none⟩)]), (9, .map (some (h.length + 2))), (25, .slice (some ⟨b, o', none⟩) l.length 2), (26, i64 l.length), (27, i64 i)],
          h.freeze ++ [some ⟨[i64 lo], true⟩, some ⟨[i64 hi], true⟩, some ⟨mV m, true⟩]⟩) l.length (by show l.length < 2 ^ 64; omega) ?_ ?_
      · simp [St.tidy, hb', m_no]
        exact ⟨0, by omega, by omega, [(48, 48)], by rw [List.drop_zero], rfl, rfl⟩
      · rintro q hq _ ⟨i, m, rfl, hi', hf, rfl⟩
        by_cases hlt : i < l.length
        · have w1' := w1 (i := i) (by omega)
          simp only [W] at w1'
          have h4 : (i : Int) < l.length := by omega
          have k2 : i * 2 + 2 ≤ l.length * 2 := by omega
          have p1 := cY_part hlt
          rw [fol_drop hlt] at hf
          have gl : ∀ L, Heap.get (h.freeze ++ (some ⟨[i64 lo], true⟩ :: L)) h.length = some ⟨[i64 lo], true⟩ := fun L => by rw [hget_base0 (by simp)]; rfl
          have gh : ∀ A L, Heap.get (h.freeze ++ (A :: some ⟨[i64 hi], true⟩ :: L)) (h.length + 1) = some ⟨[i64 hi], true⟩ := fun A L => by rw [hget_base (by simp)]; rfl
          have k149 := fun lim x L => c149 (d := d + 1) (lim := lim) (x := x) (gl (some ⟨[i64 hi], true⟩ :: L)) (gh (some ⟨[i64 lo], true⟩) L)
          have k37 := fun lim hh s => c37 (d := d) (lim := lim) (h := hh) (s := s)
          have mg := fun k => m_get m k
          generalize atY l i = x at *
          obtain ⟨f, t⟩ := x
          simp only at p1 hf
          by_cases q1 : within f lo hi = true
          · by_cases q2 : within t lo hi = true
            · rw [if_pos ⟨q1, q2⟩] at hf
              rcases q3 : mLook m f with _ | a
              · rw [if_pos q3] at hf
                rw [← hf]
                simp [h4, r, k2, p1, k149, q1, q2, mg, q3, folV, folB]
              · rw [if_neg (by rw [q3]; simp)] at hf
                rcases q4 : mLook m t with _ | a'
                · rw [if_neg (by rw [q4]; simp)] at hf
                  have mp := m_put q4 f
                  have wf : IntKind.wrap .i64 (f - t) = f - t := by
                    simp [within] at q1 q2
                    rw [wrap_eq (by omega) (by omega)]
                  have wt : IntKind.wrap .i64 (t - f) = t - f := by
                    simp [within] at q1 q2
                    rw [wrap_eq (by omega) (by omega)]
                  have dd : max (f - t) (t - f) = dist f t := rfl
                  rcases q5 : mLook ratL (dist f t) with _ | pq
                  · rw [if_pos q5] at hf
                    rw [← hf]
                    simp [h4, r, k2, p1, k149, q1, q2, mg, q3, q4, wf, wt, dd, k37, q5, ekI, folV, folB]
                  · rw [if_neg (by rw [q5]; simp)] at hf
                    simp [h4, r, k2, p1, k149, q1, q2, mg, q3, q4, wf, wt, dd, k37, q5, ekI, mp, w1', St.tidy, m_no, hb']
                    exact ⟨l.length - (i + 1), by omega, i + 1, by omega, by omega, _, hf, by omega, rfl⟩
                · rw [if_pos (by rw [q4]; simp)] at hf
                  rw [← hf]
                  simp [h4, r, k2, p1, k149, q1, q2, mg, q3, q4, ekI, folV, folB]
            · rw [if_neg (fun z => q2 z.2)] at hf
              rw [← hf]
              simp [h4, r, k2, p1, k149, q1, q2, folV, folB]
          · rw [if_neg (fun z => q1 z.1)] at hf
            rw [← hf]
            simp [h4, r, k2, p1, k149, q1, folV, folB]
        · obtain rfl : i = l.length := by omega
          rw [List.drop_length] at hf
          rw [← hf]
          simp [fol, folV, folB, m_no]
end T
end Go.Abs
/- Orders followed: the reference's; the law TemperAccepts. -/
namespace Go.Abs
namespace T
set_option maxRecDepth 100000
set_option maxHeartbeats 0
theorem c127 {d lim : Nat} {h : Heap} {v : Value} {l : List Int} {x : Int} (s : SlI h v l) (hl : l.length < 100000) : E.call (d + 1) lim 127 [v, i64 x] h = some (.bool (decide (x ∈ l)), h) := by
  have r := s.rules2
  refine call1 fn127 rfl (by simp [ef127]) ?_
  simp [ef127]
  refine wpC_loop (fun q st => ∃ i : Nat, q = l.length - i ∧ i ≤ l.length ∧ (∀ j, j < i → l[j]? ≠ some x) ∧ st = ⟨[(0, v), (1, i64 x), (5, i64 i)], h.freeze⟩) l.length (by show l.length < 2 ^ 64; omega) ?_ ?_
  · simp [St.tidy, r]
    exact ⟨0, by omega, by omega, fun j hj => absurd hj (by omega), rfl⟩
  · rintro q hq _ ⟨i, rfl, hi, hb, rfl⟩
    by_cases hlt : i < l.length
    · have w1' := w1 (i := i) (by omega)
      simp only [W] at w1'
      have gl := cI_at' hlt
      have h4 : (i : Int) < l.length := by omega
      by_cases q1 : l[i] = x
      · have hm : x ∈ l := by rw [← q1]; exact List.getElem_mem hlt
        simp [hlt, h4, r, gl, q1, hm]
      · have nx : ∀ j, j < i + 1 → l[j]? ≠ some x := fun j hj => by
          by_cases e : j = i
          · rw [e, List.getElem?_eq_getElem hlt]; exact fun z => q1 (Option.some.inj z)
          · exact hb j (by omega)
        simp [hlt, h4, r, gl, q1, w1', St.tidy]
        exact ⟨⟨l.length - (i + 1), by omega, i + 1, by omega, by omega, nx, by omega⟩, fun z => absurd z (by omega)⟩
    · obtain rfl : i = l.length := by omega
      have hm : ¬ x ∈ l := fun z => by
        obtain ⟨j, hj, e⟩ := List.getElem_of_mem z
        exact hb j hj (by rw [List.getElem?_eq_getElem hj, e])
      simp [r, hm]
theorem mLook_keys {m : List X2} {k : Int} : mLook m k = none ↔ ¬ k ∈ m.map (·.1) := by
  induction m with
  | nil => simp [mLook]
  | cons p r ih =>
    simp only [mLook, List.map_cons, List.mem_cons]
    by_cases e : k = p.1
    · simp [e]
    · simp [e, ih]
def tunV (n : Nat) (r : Int × List X2) : Value := if r.1 = 0 then .slice (some ⟨n, 0, none⟩) r.2.length 1 else .slice none 0 0
def tunB (r : Int × List X2) : List (Option Blk) := if r.1 = 0 then [some ⟨cI (r.2.map (·.1)), true⟩] else []
theorem c79 {d lim : Nat} {h : Heap} {v : Value} {l : List X2} {lo hi : Int} (s : SlY h v l) (h1 : 0 ≤ lo) (h2 : hi ≤ 87) :
    E.call (d + 3) lim 79 [v, i64 lo, i64 hi] h = some (.tuple #[tunV h.length (folR lo hi l), i64 (folR lo hi l).1], h ++ tunB (folR lo hi l)) := by
  have r := s.rules2
  refine call_pure fn79 rfl (by simp [ef79]) ?_
  by_cases hl : 100 < l.length
  · have e1 : (100 : Int) < l.length := by omega
    have er : folR lo hi l = (8, []) := by simp [folR, hl]
    rw [er]
    simp [ef79, r, e1, Int.not_le.2 e1, tunV, tunB]
  · have e1 : (l.length : Int) ≤ 100 := by omega
    have er : folR lo hi l = fol lo hi l [(48, 48)] := by simp [folR, hl]
    rw [er]
    rcases Nat.eq_zero_or_pos l.length with hz | hz
    · have e : l = [] := List.eq_nil_of_length_eq_zero hz
      subst e
      rcases s.low with rfl | ⟨b, o', m, t', rfl, hb'⟩
      · simp [ef79, wpC_unroll, wpI_step, E_fuel, St.tidy, fol, tunV, tunB, cI]
      · obtain rfl : m = 0 := by
          have := s.len
          simpa using this
        simp [ef79, wpC_unroll, wpI_step, E_fuel, St.tidy, fol, tunV, tunB, cI, hb']
    · obtain ⟨b, o', rfl⟩ : ∃ b o, v = .slice (some ⟨b, o, none⟩) l.length 2 := ⟨_, _, s.addr (by omega)⟩
      have hb' := s.lt (by omega)
      simp only [slB_some, slO_some] at r hb'
      simp [ef79, r, e1, Int.not_lt.2 e1]
      refine wpC_loop (fun q st => ∃ (i : Nat) (m : List X2), q = l.length - i ∧ i ≤ l.length ∧ m.length = i + 1 ∧ fol lo hi (l.drop i) m = fol lo hi l [(48, 48)] ∧
        st = ⟨[(0, .slice (some ⟨b, o', none⟩) l.length 2), (1, i64 lo), (2, i64 hi), (8, .slice (some ⟨h.length, 0, none⟩) (i + 1) 1), (9, i64 i)],
          h.freeze ++ [some ⟨cI (m.map (·.1)), true⟩]⟩) l.length (by show l.length < 2 ^ 64; omega) ?_ ?_
      · simp [St.tidy, hb']
        exact ⟨0, by omega, by omega, [(48, 48)], rfl, by rw [List.drop_zero], ⟨rfl, rfl⟩, rfl⟩
      · rintro q hq _ ⟨i, m, rfl, hi', hml, hf, rfl⟩
        by_cases hlt : i < l.length
        · have w1' := w1 (i := i) (by omega)
          simp only [W] at w1'
          have h4 : (i : Int) < l.length := by omega
          have k2 : i * 2 + 2 ≤ l.length * 2 := by omega
          have p1 := cY_part hlt
          rw [fol_drop hlt] at hf
          have ml : (m.map (·.1)).length = i + 1 := by simp [hml]
          have gs : ∀ L, Heap.get (h.freeze ++ (some ⟨cI (m.map (·.1)), true⟩ :: L)) h.length = some ⟨cI (m.map (·.1)), true⟩ := fun L => by rw [hget_base0 (by simp)]; rfl
          have k127 := fun lim x L => c127 (d := d + 1) (lim := lim) (x := x) (SlI_own (gs L) ml.symm) (by omega)
          have k60 := fun lim hh a => @c60 (d + 1) lim hh a lo hi
          have k39 := fun lim hh s => c39 (d := d + 1) (lim := lim) (h := hh) (s := s)
          have bl : (cI (m.map (·.1))).length = i + 1 := by simp [cI, hml]
          have bp := cI_plain (m.map (·.1))
          have mk := fun k => @mLook_keys m k
          generalize atY l i = x at *
          obtain ⟨f, t⟩ := x
          simp only at p1 hf
          by_cases q1 : within f lo hi = true
          · by_cases q2 : within t lo hi = true
            · rw [if_pos ⟨q1, q2⟩] at hf
              by_cases q3 : mLook m f = none
              · rw [if_pos q3] at hf
                rw [← hf]
                have q3' := (mk f).1 q3
                generalize m.map (·.1) = M at *
                simp [hlt, h4, r, k2, p1, k60, q1, q2, k127, q3', tunV, tunB]
              · rw [if_neg q3] at hf
                have q3' : f ∈ m.map (·.1) := Decidable.byContradiction fun z => q3 ((mk f).2 z)
                by_cases q4 : mLook m t = none
                · rw [if_neg (fun z => z q4)] at hf
                  have q4' := (mk t).1 q4
                  have wf : IntKind.wrap .i64 (f - t) = f - t := by
                    simp [within] at q1 q2
                    rw [wrap_eq (by omega) (by omega)]
                  have k128 := fun lim hh => c128 (d := d + 1) (lim := lim) (h := hh) (a := f - t)
                  have dd : absV (f - t) = dist f t := by
                    simp [within] at q1 q2
                    unfold absV dist
                    split
                    · rw [wrap_eq (by omega) (by omega)]; omega
                    · omega
                  rw [dd] at k128
                  rcases q5 : mLook ratL (dist f t) with _ | pq
                  · rw [if_pos q5] at hf
                    rw [← hf]
                    have e2 : ratV (dist f t) = (0, 0) := by simp [ratV, q5]
                    generalize m.map (·.1) = M at *
                    simp [hlt, h4, r, k2, p1, k60, q1, q2, k127, q3', q4', wf, k128, k39, e2, tunV, tunB]
                  · rw [if_neg (by rw [q5]; simp)] at hf
                    obtain ⟨p, qq⟩ := pq
                    have e2 : ratV (dist f t) = (p, qq) := by simp [ratV, q5]
                    have p0 : p ≠ 0 := by have := (rat_ok q5).2.1; omega
                    have hsn : cI (m.map (·.1)) ++ [i64 t] = cI ((m ++ [(t, f)]).map (·.1)) := by rw [cI_snoc]; simp
                    have bp' := cI_plain ((m ++ [(t, f)]).map (·.1))
                    have ml' : (m ++ [(t, f)]).length = i + 1 + 1 := by simp [hml]
                    generalize hM' : (m ++ [(t, f)]).map (·.1) = M' at *
                    generalize m.map (·.1) = M at *
                    simp [hlt, h4, r, k2, p1, k60, q1, q2, k127, q3', q4', wf, k128, k39, e2, p0, bl, hsn, bp', E.append, E.added, Value.oneCell', maxLen, w1', St.tidy, hb', Nat.add_assoc]
                    exact ⟨⟨⟨by omega, by omega⟩, l.length - (i + 1), by omega, i + 1, by omega, by omega, _, ml', hf, ⟨by omega, by omega⟩, by rw [hM']⟩, fun z => absurd z (by omega)⟩
                · rw [if_pos q4] at hf
                  rw [← hf]
                  have q4' : t ∈ m.map (·.1) := Decidable.byContradiction fun z => q4 ((mk t).2 z)
                  generalize m.map (·.1) = M at *
                  simp [hlt, h4, r, k2, p1, k60, q1, q2, k127, q3', q4', tunV, tunB]
            · rw [if_neg (fun z => q2 z.2)] at hf
              rw [← hf]
              generalize m.map (·.1) = M at *
              simp [hlt, h4, r, k2, p1, k60, q1, q2, tunV, tunB]
          · rw [if_neg (fun z => q1 z.1)] at hf
            rw [← hf]
            generalize m.map (·.1) = M at *
            simp [hlt, h4, r, k2, p1, k60, q1, tunV, tunB]
        · obtain rfl : i = l.length := by omega
          rw [List.drop_length] at hf
          rw [← hf]
          have bp := cI_plain (m.map (·.1))
          simp [fol, tunV, tunB, hml, bp]
theorem range_len {lo : Int} : ∀ (n : Nat) (l : List Int), l.Nodup → (∀ x ∈ l, lo ≤ x ∧ x < lo + n) → l.length ≤ n
  | 0, l, _, h => by
    rcases l with _ | ⟨a, r⟩
    · simp
    · have := h a (by simp); omega
  | n + 1, l, hd, h => by
    by_cases q : lo + n ∈ l
    · have h1 := List.length_erase_of_mem q
      have h2 := range_len (lo := lo) n (l.erase (lo + n)) (hd.erase _) (fun x hx => by
        have h1 := (hd.mem_erase_iff).1 hx
        have h2 := h x h1.2
        have h3 := h1.1
        omega)
      have : 0 < l.length := List.length_pos_of_mem q
      omega
    · have := range_len (lo := lo) n l hd (fun x hx => by
        have h3 := h x hx
        have : x ≠ lo + n := fun z => q (z ▸ hx)
        omega)
      omega
theorem fol_good {lo hi : Int} : ∀ (r m : List X2), (m.map (·.1)).Nodup → (∀ x ∈ m.map (·.1), lo ≤ x ∧ x ≤ hi) → (fol lo hi r m).1 = 0 → ((fol lo hi r m).2.map (·.1)).Nodup ∧ ∀ x ∈ (fol lo hi r m).2.map (·.1), lo ≤ x ∧ x ≤ hi
  | [], m, h1, h2, _ => ⟨h1, h2⟩
  | x :: r, m, h1, h2, h => by
    simp only [fol] at h ⊢
    split at h
    · rename_i w
      rw [if_pos w]
      split at h
      · omega
      · rename_i a
        rw [if_neg a]
        split at h
        · omega
        · rename_i b
          rw [if_neg b]
          split at h
          · omega
          · rename_i c
            rw [if_neg c]
            have nb : ¬ x.2 ∈ m.map (·.1) := mLook_keys.1 (by simpa using b)
            refine fol_good r _ ?_ ?_ h
            · rw [List.map_append, List.nodup_append]
              refine ⟨h1, by simp, fun a ha b hb => ?_⟩
              simp at hb
              exact fun z => nb (by rw [← hb, ← z]; exact ha)
            · intro y hy
              rw [List.map_append, List.mem_append] at hy
              rcases hy with hy | hy
              · exact h2 y hy
              · simp at hy
                have := w.2
                simp [within] at this
                rw [hy]; exact this
    · omega
theorem folR_len {lo hi : Int} {l : List X2} (h48 : lo ≤ 48 ∧ 48 ≤ hi) (h : (folR lo hi l).1 = 0) : ((folR lo hi l).2.length : Int) ≤ hi - lo + 1 := by
  unfold folR at h ⊢
  split at h
  · simp at h
  · rename_i q
    rw [if_neg q]
    obtain ⟨a, b⟩ := fol_good l [(48, 48)] (by simp) (by simp; exact h48) h
    have := range_len (lo := lo) (hi - lo + 1).toNat _ a (fun x hx => by have := b x hx; omega)
    rw [List.length_map] at this
    omega
/-- Whether an order is accepted. -/
def chkOr (lo hi : Int) (l : List X2) : Int :=
  if isNote lo = true ∧ isNote hi = true ∧ lo ≤ 48 ∧ 48 ≤ hi then (if (folR lo hi l).1 ≠ 0 then (folR lo hi l).1 else if ((folR lo hi l).2.length : Int) = hi - lo + 1 then 0 else 14) else 2
theorem c63 {d lim : Nat} {h : Heap} {v : Value} {l : List X2} {lo hi : Int} (s : SlY h v l) : E.call (d + 4) lim 63 [v, i64 lo, i64 hi] h = some (i64 (chkOr lo hi l), h) := by
  refine call1 fn63 rfl (by simp [ef63]) ?_
  have s2 : ∀ L, SlY (h.freeze ++ L) v l := fun L => (Sl_freeze.2 s).app L
  by_cases q1 : isNote lo = true
  · by_cases q2 : isNote hi = true
    · by_cases q3 : lo ≤ 48
      · by_cases q4 : 48 ≤ hi
        · have e : chkOr lo hi l = if (folR lo hi l).1 ≠ 0 then (folR lo hi l).1 else if ((folR lo hi l).2.length : Int) = hi - lo + 1 then 0 else 14 := by
            unfold chkOr; rw [if_pos ⟨q1, q2, q3, q4⟩]
          have b1 : 0 ≤ lo ∧ lo ≤ 87 := by simpa [isNote, within] using q1
          have b2 : 0 ≤ hi ∧ hi ≤ 87 := by simpa [isNote, within] using q2
          have k125 := fun lim => c125 (d := d) (lim := lim) (Sl_freeze.2 s) (lo := lo) (hi := hi) b1.1 b2.2
          have fl := folR_len (l := l) (lo := lo) (hi := hi) ⟨q3, q4⟩
          have w : IntKind.wrap .i64 (hi - lo) = hi - lo := by rw [wrap_eq (by omega) (by omega)]
          have w' : IntKind.wrap .i64 (hi - lo + 1) = hi - lo + 1 := by rw [wrap_eq (by omega) (by omega)]
          rw [e]
          generalize folR lo hi l = R at *
          obtain ⟨er, m⟩ := R
          by_cases q5 : er = 0
          · subst q5
            have := fl rfl
            simp only [folV, folB, if_true] at k125 this
            by_cases q6 : (m.length : Int) = hi - lo + 1
            · simp [ef63, c85, q1, q2, q3, q4, Int.not_lt.2 q3, Int.not_lt.2 q4, k125, encMap_len, w, w', q6]
            · have q7 : (m.length : Int) < hi - lo + 1 := by omega
              simp [ef63, c85, q1, q2, q3, q4, Int.not_lt.2 q3, Int.not_lt.2 q4, k125, encMap_len, w, w', q6, q7]
          · simp only [folV, folB, if_neg q5] at k125
            simp [ef63, c85, q1, q2, q3, q4, Int.not_lt.2 q3, Int.not_lt.2 q4, k125, q5]
        · have e : chkOr lo hi l = 2 := by unfold chkOr; rw [if_neg fun z => q4 z.2.2.2]
          rw [e]
          simp [ef63, c85, q1, q2, q3, q4, Int.not_lt.2 q3, Int.not_le.1 q4]
      · have e : chkOr lo hi l = 2 := by unfold chkOr; rw [if_neg fun z => q3 z.2.2.1]
        rw [e]
        simp [ef63, c85, q1, q2, q3, Int.not_le.1 q3]
    · have e : chkOr lo hi l = 2 := by unfold chkOr; rw [if_neg fun z => q2 z.2.1]
      rw [e]
      simp [ef63, c85, q1, q2]
  · have e : chkOr lo hi l = 2 := by unfold chkOr; rw [if_neg fun z => q1 z.1]
    rw [e]
    simp [ef63, c85, q1]
theorem c64 {d lim : Nat} {h : Heap} {v : Value} {l : List X2} {lo hi : Int} (s : SlY h v l) : E.call (d + 4) lim 64 [v, i64 lo, i64 hi] h = some (i64 (chkOr lo hi l), h) := by
  refine call1 fn64 rfl (by simp [ef64]) ?_
  have s2 : ∀ L, SlY (h.freeze ++ L) v l := fun L => (Sl_freeze.2 s).app L
  have k60 := fun lim hh => @c60 (d + 2) lim hh 48 lo hi
  by_cases q1 : isNote lo = true
  · by_cases q2 : isNote hi = true
    · by_cases q3 : lo ≤ 48 ∧ 48 ≤ hi
      · have e : chkOr lo hi l = if (folR lo hi l).1 ≠ 0 then (folR lo hi l).1 else if ((folR lo hi l).2.length : Int) = hi - lo + 1 then 0 else 14 := by
          unfold chkOr; rw [if_pos ⟨q1, q2, q3⟩]
        have b1 : 0 ≤ lo ∧ lo ≤ 87 := by simpa [isNote, within] using q1
        have b2 : 0 ≤ hi ∧ hi ≤ 87 := by simpa [isNote, within] using q2
        have k79 := fun lim => c79 (d := d) (lim := lim) (Sl_freeze.2 s) (lo := lo) (hi := hi) b1.1 b2.2
        have w : IntKind.wrap .i64 (hi - lo) = hi - lo := by rw [wrap_eq (by omega) (by omega)]
        have w' : IntKind.wrap .i64 (hi - lo + 1) = hi - lo + 1 := by rw [wrap_eq (by omega) (by omega)]
        have kw : within 48 lo hi = true := by simp [within]; exact q3
        rw [e]
        generalize folR lo hi l = R at *
        obtain ⟨er, m⟩ := R
        by_cases q5 : er = 0
        · subst q5
          simp only [tunV, tunB, if_true] at k79
          by_cases q6 : (m.length : Int) = hi - lo + 1
          · simp [ef64, c24, q1, q2, k60, kw, k79, w, w', q6]
          · simp [ef64, c24, q1, q2, k60, kw, k79, w, w', q6]
        · simp only [tunV, tunB, if_neg q5] at k79
          simp [ef64, c24, q1, q2, k60, kw, k79, q5]
      · have e : chkOr lo hi l = 2 := by unfold chkOr; rw [if_neg fun z => q3 z.2.2]
        have kw : within 48 lo hi = false := by simp [within]; omega
        rw [e]
        simp [ef64, c24, q1, q2, k60, kw]
    · have e : chkOr lo hi l = 2 := by unfold chkOr; rw [if_neg fun z => q2 z.2.1]
      rw [e]
      simp [ef64, c24, q1, q2]
  · have e : chkOr lo hi l = 2 := by unfold chkOr; rw [if_neg fun z => q1 z.1]
    rw [e]
    simp [ef64, c24, q1]
theorem c62 {d lim : Nat} {h : Heap} {v : Value} {l : List X2} (s : SlY h v l) : E.call (d + 1) lim 62 [v] h = some (.bool (decide (l.length ≤ 103)), h) := by
  have r := s.rules2
  refine call1 fn62 rfl (by simp [ef62]) ?_
  simp [ef62, r]
  omega
theorem law13 (lim : Nat) {h : Heap} (A : AwOk h) {v : Value} {l : List X2} {lo hi : Int} (s : SlY h v l) : E.call 21 lim 13 [v, i64 lo, i64 hi] h = some (.bool true, h) := by
  have a1 := A
  unfold AwOk at a1
  have a0 : ∀ lim, E.call 20 lim 19 [] h.freeze = some (.bool true, h.freeze) := fun lim => by simpa using a1 lim []
  have j62 := fun lim => c62 (d := 19) (lim := lim) (Sl_freeze.2 s)
  have j64 := fun lim => c64 (d := 16) (lim := lim) (Sl_freeze.2 s) (lo := lo) (hi := hi)
  have s2 : ∀ L, SlY (h.freeze ++ L) v l := fun L => (Sl_freeze.2 s).app L
  have k62 := fun lim L => c62 (d := 19) (lim := lim) (s2 L)
  have k64 := fun lim L => c64 (d := 16) (lim := lim) (s2 L) (lo := lo) (hi := hi)
  refine call1 fn13 rfl (by simp [ef13]) ?_
  by_cases hl : l.length ≤ 103
  · rcases Nat.eq_zero_or_pos l.length with hz | hz
    · have e : l = [] := List.eq_nil_of_length_eq_zero hz
      subst e
      have gw : Heap.get (h.freeze ++ [some ⟨[], true⟩]) h.length = some ⟨[], true⟩ := by rw [hget_base0 (by simp)]; rfl
      have sw : SlY _ (.slice (some ⟨h.length, 0, none⟩) 0 2) [] := SlY_own (l := []) (n := 0) gw rfl
      have k63 := fun lim => c63 (d := 16) (lim := lim) sw (lo := lo) (hi := hi)
      rcases s.low with rfl | ⟨b, o', m, t', e, hb'⟩
      · simp [ef13, a0, a1, j62, j64, k62, hl, E.append, E.added, k63, k64]
      · have m0 : m = 0 := by
          have := s.len
          rw [e] at this
          simpa using this
        subst m0
        subst e
        simp [ef13, a0, a1, j62, j64, k62, hl, E.append, E.added, k63, k64, hb']
    · obtain ⟨b, o', kc, rfl, G, g1, g2, hb'⟩ := s.blkF (by omega) (by decide)
      have one := plain_one_all (cY_plain l)
      have gw : Heap.get (h.freeze ++ [none, some ⟨cY l, true⟩]) (h.length + 1) = some ⟨cY l, true⟩ := by rw [hget_base (by simp)]; rfl
      have sw : SlY _ (.slice (some ⟨h.length + 1, 0, none⟩) l.length 2) l := SlY_own gw rfl
      have k63 := fun lim => c63 (d := 16) (lim := lim) sw (lo := lo) (hi := hi)
      have m1 : l.length * 16 ≤ 140737488355328 := by omega
      have m2 : l.length ≤ 9223372036854775807 := by omega
      have nz : l.length ≠ 0 := by omega
      simp [ef13, a0, a1, j62, j64, k62, hl, E.append, E.added, maxLen, G, g1, g2, one, m1, m2, nz, k63, k64, hb']
  · simp [ef13, a0, a1, j62, j64, k62, hl]
theorem temperAccepts_law : ∀ (bs : List (Option Blk)) us, Heap.freeze ([primesB] ++ bs) = [primesB] ++ bs → (∀ n, ctBlocks (([(false, [.sl [ctI, ctI]]), (false, [ctI]), (false, [ctI])] : List (Bool × List CT)).flatMap (·.2)) = some n → bs.length = n) →
    ArgsV 6 ([primesB] ++ bs) [(false, [.sl [ctI, ctI]]), (false, [ctI]), (false, [ctI])] us → ∃ h', E.call 21 (([primesB] : Heap) ++ bs).length 13 us ([primesB] ++ bs) = some (.bool true, h') := by
  intro bs us _ k a
  obtain ⟨u, v, w, rfl, a1, a2, a3⟩ := args3 a
  obtain ⟨l, s, _⟩ := arg_steps (d := 5) (a1.2 0 _ _ rfl rfl)
  obtain ⟨_, rfl, _⟩ := arg_int a2
  obtain ⟨_, rfl, _⟩ := arg_int a3
  exact ⟨_, law13 _ (awOk bs) s⟩
end T
end Go.Abs
/- The order of all notes: both; it is accepted. -/
namespace Go.Abs
namespace T
set_option maxRecDepth 100000
set_option maxHeartbeats 0
def beaL : List X2 := [(48, 36), (36, 43), (43, 38), (38, 33), (33, 40), (40, 35), (35, 42), (42, 37), (37, 44), (44, 39), (39, 34), (34, 41), (44, 32)]
theorem beaL_eq : bea 11 ++ [i64 44, i64 32] = cY beaL := by simp [bea, nt, cY, cS, encY, beaL]
theorem cY_snoc (l : List X2) (a b : Int) : cY l ++ [i64 a, i64 b] = cY (l ++ [(a, b)]) := by simp [cY, cS, encY]
theorem c66' {d lim : Nat} {h : Heap} : E.call (d + 1) lim 66 [] h = some (.slice (some ⟨h.length, 0, none⟩) 13 2, h ++ [some ⟨cY beaL, true⟩]) := by rw [c66, beaL_eq]
theorem c67 {d lim : Nat} {h : Heap} : E.call (d + 1) lim 67 [] h = some (.slice (some ⟨h.length, 0, none⟩) 13 2, h ++ [some ⟨cY beaL, true⟩]) := by
  rw [← beaL_eq]
  refine call_pure fn67 rfl (by simp [ef67]) ?_
  simp [ef67]
  refine wpC_loop (fun q st => ∃ i, q = 11 - i ∧ i ≤ 11 ∧ st = ⟨[(1, .slice (some ⟨h.length, 0, none⟩) (i + 1) 2), (2, i64 (nt i)), (3, i64 i)], h.freeze ++ [some ⟨bea i, true⟩]⟩) 11 (by show 11 < 2 ^ 64; omega) ?_ ?_
  · simp [St.tidy]
    exact ⟨0, by omega, by omega, ⟨rfl, rfl, rfl⟩, rfl⟩
  · rintro q hq _ ⟨i, rfl, hi, rfl⟩
    have bl := bea_len i
    have bp := bea_plain i
    have bp' := bea_plain (i + 1)
    by_cases hlt : i < 11
    · have h1 : (i : Int) < 11 := by omega
      obtain ⟨n1, n2⟩ := nt_b i
      have w7 : IntKind.wrap .i64 (nt i + 7) = nt i + 7 := wrapL (by omega) (by omega)
      have w5 : IntKind.wrap .i64 (nt i - 5) = nt i - 5 := wrapL (by omega) (by omega)
      have w1' := w1 (i := i) (by omega)
      simp only [W] at w1'
      have hb := bea_one i
      have mm : (i + 1) * 2 = 2 * (i + 1) := by omega
      by_cases hg : 44 < nt i + 7
      · have e : nt (i + 1) = nt i - 5 := by simp [nt, hg]
        rw [e] at hb
        simp [h1, w7, w5, hg, E.append, E.added, Value.oneCell', maxLen, bl, mm, St.tidy, hb, bp', w1', Nat.add_assoc]
        exact ⟨⟨by omega, by omega⟩, 10 - i, by omega, i + 1, by omega, by omega, ⟨rfl, e.symm, by omega⟩, rfl⟩
      · have e : nt (i + 1) = nt i + 7 := by simp [nt, hg]
        rw [e] at hb
        simp [h1, w7, w5, hg, E.append, E.added, Value.oneCell', maxLen, bl, mm, St.tidy, hb, bp', w1', Nat.add_assoc]
        exact ⟨⟨by omega, by omega⟩, 10 - i, by omega, i + 1, by omega, by omega, ⟨rfl, e.symm, by omega⟩, rfl⟩
    · obtain rfl : i = 11 := by omega
      have bq : (bea 11 ++ [i64 44, i64 32]).all plainV = true := by simp [bp, plainV]
      simp [E.append, E.added, Value.oneCell', maxLen, bl, bp, bq, St.tidy]
theorem atY_inj {l r : List X2} (hl : l.length = r.length) (h : ∀ j, j < l.length → atY l j = atY r j) : l = r := by
  apply List.ext_getElem?
  intro j
  by_cases hj : j < l.length
  · have := h j hj
    rw [← atY_get hj, ← atY_get (by omega)] at this
    rw [List.getElem?_eq_getElem hj, List.getElem?_eq_getElem (by omega)]
    exact congrArg some this
  · rw [List.getElem?_eq_none (by omega), List.getElem?_eq_none (by omega)]
theorem c65 {d lim : Nat} {h : Heap} {v w : Value} {l r : List X2} (s : SlY h v l) (t : SlY h w r) (hl : l.length < 100000) : E.call (d + 1) lim 65 [v, w] h = some (.bool (decide (l = r)), h) := by
  have rs := s.rules2
  have rt := t.rules2
  refine call1 fn65 rfl (by simp [ef65]) ?_
  by_cases hlen : l.length = r.length
  · simp [ef65, rs, rt, hlen]
    refine wpC_loop (fun q st => ∃ i : Nat, q = l.length - i ∧ i ≤ l.length ∧ (∀ j, j < i → atY l j = atY r j) ∧ st = ⟨[(0, v), (1, w), (5, i64 i)], h.freeze⟩) l.length (by show l.length < 2 ^ 64; omega) ?_ ?_
    · simp [St.tidy, rs, rt]
      exact ⟨0, by omega, by omega, fun j hj => absurd hj (by omega), rfl⟩
    · rintro q hq _ ⟨i, rfl, hi, hb, rfl⟩
      by_cases hlt : i < l.length
      · have hlt' : i < r.length := by omega
        have w1' := w1 (i := i) (by omega)
        simp only [W] at w1'
        have p1 := cY_part hlt
        have p2 := cY_part hlt'
        have k1 : i * 2 + 2 ≤ l.length * 2 := by omega
        have k2 : i * 2 + 2 ≤ r.length * 2 := by omega
        have h4 : (i : Int) < l.length := by omega
        have h4' : (i : Int) < r.length := by omega
        by_cases q1 : atY l i = atY r i
        · have nx : ∀ j, j < i + 1 → atY l j = atY r j := fun j hj => by
            by_cases e : j = i
            · rw [e, q1]
            · exact hb j (by omega)
          rw [q1] at p1
          simp [h4, h4', rs, rt, k1, k2, p1, p2, w1', St.tidy]
          exact ⟨fun _ => ⟨l.length - (i + 1), by omega, i + 1, by omega, by omega, nx, by omega⟩, fun z => absurd z (by omega)⟩
        · have ne : ¬ l = r := fun q => by subst q; exact q1 rfl
          have nq : ¬ ((atY l i).1 = (atY r i).1 ∧ (atY l i).2 = (atY r i).2) := fun q => q1 (Prod.ext q.1 q.2)
          simp [h4, h4', rs, rt, k1, k2, p1, p2, ne]
          exact ⟨fun _ e1 e2 => absurd ⟨e1, e2⟩ nq, hlt⟩
      · obtain rfl : i = l.length := by omega
        have eq : l = r := atY_inj hlen hb
        subst eq
        simp [rs]
  · have ne : ¬ l = r := fun q => hlen (by rw [q])
    have ne2 : ¬ ((l.length : Int) = (r.length : Int)) := by omega
    simp [ef65, rs, rt, ne, ne2]
/-- Upwards from the bearings; downwards. -/
def upL : Nat → List X2
  | 0 => []
  | k + 1 => upL k ++ (if k = 3 then [] else [(((33 + k : Nat) : Int), ((45 + k : Nat) : Int))])
def dnL : Nat → List X2
  | 0 => []
  | j + 1 => dnL j ++ [(((43 - j : Nat) : Int), ((31 - j : Nat) : Int))]
def ordL (lo hi : Nat) : List X2 := beaL ++ upL (hi - 44) ++ dnL (32 - lo)
theorem upL_len : ∀ k, (upL k).length = if 4 ≤ k then k - 1 else k
  | 0 => rfl
  | k + 1 => by
    simp only [upL, List.length_append, upL_len k]
    by_cases e : k = 3
    · simp [e]
    · simp only [if_neg e, List.length_cons, List.length_nil]
      split <;> split <;> omega
theorem dnL_len : ∀ k, (dnL k).length = k
  | 0 => rfl
  | k + 1 => by simp [dnL, dnL_len k]
def noteOr (lo hi : Int) : Bool := within lo 0 32 && within hi 48 87
theorem c68e {d lim : Nat} {h : Heap} {lo hi : Int} (hn : noteOr lo hi = false) : E.call (d + 2) lim 68 [i64 lo, i64 hi] h = some (.tuple #[.slice none 0 0, i64 2], h) := by
  refine call1 fn68 rfl (by simp [ef68]) ?_
  simp [noteOr, within] at hn
  by_cases q1 : lo < 0
  · simp [ef68, q1]
  · by_cases q2 : 32 < lo
    · simp [ef68, q1, q2]
    · by_cases q3 : hi < 48
      · simp [ef68, q1, q2, q3]
      · have q4 : 87 < hi := by omega
        simp [ef68, q1, q2, q3, q4]
theorem c68 {d lim : Nat} {h : Heap} {lo hi : Nat} (h1 : lo ≤ 32) (h2 : 48 ≤ hi) (h3 : hi ≤ 87) : E.call (d + 2) lim 68 [i64 lo, i64 hi] h = some (.tuple #[.slice (some ⟨h.length, 0, none⟩) (ordL lo hi).length 2, i64 0], h ++ [some ⟨cY (ordL lo hi), true⟩]) := by
  refine call_pure fn68 rfl (by simp [ef68]) ?_
  have q1 : ¬ (lo : Int) < 0 := by omega
  have q2 : ¬ (32 : Int) < lo := by omega
  have q3 : ¬ (hi : Int) < 48 := by omega
  have q4 : ¬ (87 : Int) < hi := by omega
  have k66 := fun lim hh => c66' (d := d) (lim := lim) (h := hh)
  have bp0 := cY_plain beaL
  simp [ef68, q1, q2, q3, q4, k66, Int.not_lt.1 q2, Int.not_lt.1 q3, Int.not_lt.1 q4, Int.not_lt.1 q1]
  refine wpC_loop (fun q st => ∃ k n g : Nat, q = hi - 44 - k ∧ k ≤ hi - 44 ∧ g = 45 + k ∧ n = (beaL ++ upL k).length ∧ st = ⟨[(0, i64 lo), (1, i64 hi), (6, .slice (some ⟨h.length, 0, none⟩) n 2), (7, i64 (g : Int))], h.freeze ++ [some ⟨cY (beaL ++ upL k), true⟩]⟩) (hi - 44) (by show hi - 44 < 2 ^ 64; omega) ?_ ?_
  · simp [St.tidy, bp0]
    exact ⟨0, by omega, by omega, ⟨rfl, by omega⟩, by simp [upL]⟩
  · rintro q hq _ ⟨k, n, g, rfl, hk, hg, hn, rfl⟩
    have bl : (cY (beaL ++ upL k)).length = n * 2 := by rw [cY_len, hn]
    have bp := cY_plain (beaL ++ upL k)
    have w1' := w1 (i := g) (by omega)
    simp only [W] at w1'
    have n0 : n ≠ 0 := by rw [hn, List.length_append]; simp [beaL]
    have nb : n ≤ 200 := by rw [hn, List.length_append, upL_len]; simp [beaL]; split <;> omega
    by_cases hlt : k < hi - 44
    · have hle : (g : Int) ≤ hi := by omega
      by_cases e : k = 3
      · have g48 : (g : Int) = 48 := by omega
        have eu : upL (k + 1) = upL k := by simp [upL, e]
        simp [hle, g48, w1', St.tidy, bp]
        exact ⟨fun _ => ⟨hi - 44 - (k + 1), by omega, k + 1, by omega, by omega, ⟨by rw [eu, hn, List.length_append], by rw [wrap_eq (by omega) (by omega)]; omega⟩, by rw [eu]⟩, fun z => absurd z (by omega)⟩
      · have g48 : ¬ (g : Int) = 48 := by omega
        have w12 : IntKind.wrap .i64 ((g : Int) - 12) = ((33 + k : Nat) : Int) := by rw [wrap_eq (by omega) (by omega)]; omega
        have hsn : cY (beaL ++ upL k) ++ [i64 ((33 + k : Nat) : Int), i64 (g : Int)] = cY (beaL ++ upL (k + 1)) := by rw [cY_snoc, hg]; simp [upL, e]
        have bp' := cY_plain (beaL ++ upL (k + 1))
        have hn' : n + 1 = (beaL ++ upL (k + 1)).length := by simp [upL, e, hn]; omega
        generalize 33 + k = g2 at *
        simp [hle, g48, w12, w1', n0, bl, hsn, bp', E.append, E.added, Value.oneCell', maxLen, St.tidy, Nat.add_assoc]
        exact ⟨⟨by omega, by omega⟩, hi - 44 - (k + 1), by omega, k + 1, by omega, by omega, ⟨by rw [hn', List.length_append], by omega⟩, rfl⟩
    · obtain rfl : k = hi - 44 := by omega
      have hle : ¬ (g : Int) ≤ hi := by omega
      have u1 : (beaL ++ upL (hi - 44)).length ≠ 0 := by rw [← hn]; exact n0
      have u2 : (beaL ++ upL (hi - 44)).length ≤ 100 := by rw [List.length_append, upL_len]; simp [beaL]; split <;> omega
      simp [hle]
      simp only [ordL]
      generalize beaL ++ upL (hi - 44) = U at *
      refine wpC_loop (fun q st => ∃ j n' : Nat, q = 32 - lo - j ∧ j ≤ 32 - lo ∧ n' = (U ++ dnL j).length ∧ st = ⟨[(0, i64 lo), (6, .slice (some ⟨h.length, 0, none⟩) n' 2), (8, i64 ((31 : Int) - j))], h.freeze ++ [some ⟨cY (U ++ dnL j), true⟩]⟩) (32 - lo) (by show 32 - lo < 2 ^ 64; omega) ?_ ?_
      · simp [St.tidy, bp]
        exact ⟨0, by omega, by omega, ⟨by rw [hn]; simp [dnL], by omega⟩, by simp [dnL]⟩
      · rintro q hq _ ⟨j, n', rfl, hj, hn', rfl⟩
        have bl : (cY (U ++ dnL j)).length = n' * 2 := by rw [cY_len, hn']
        have bp := cY_plain (U ++ dnL j)
        have n0 : n' ≠ 0 := by rw [hn', List.length_append]; omega
        have nb : n' ≤ 200 := by rw [hn', List.length_append, dnL_len]; omega
        by_cases hlt : j < 32 - lo
        · have hle : (lo : Int) ≤ 31 - j := by omega
          have w12 : IntKind.wrap .i64 ((31 : Int) - j + 12) = ((43 - j : Nat) : Int) := by rw [wrap_eq (by omega) (by omega)]; omega
          have wm : IntKind.wrap .i64 ((31 : Int) - j - 1) = (31 : Int) - ((j + 1 : Nat) : Int) := by rw [wrap_eq (by omega) (by omega)]; omega
          have e31 : (31 : Int) - j = ((31 - j : Nat) : Int) := by omega
          have hsn : cY (U ++ dnL j) ++ [i64 ((43 - j : Nat) : Int), i64 ((31 : Int) - j)] = cY (U ++ dnL (j + 1)) := by rw [cY_snoc, e31]; simp [dnL]
          have bp' := cY_plain (U ++ dnL (j + 1))
          have hn2 : n' + 1 = (U ++ dnL (j + 1)).length := by simp [dnL, hn']; omega
          generalize 43 - j = g2 at *
          simp [hle, w12, wm, n0, bl, hsn, bp', E.append, E.added, Value.oneCell', maxLen, St.tidy, Nat.add_assoc]
          exact ⟨⟨by omega, by omega⟩, 32 - lo - (j + 1), by omega, j + 1, by omega, by omega, ⟨by rw [hn2, List.length_append], by omega⟩, rfl⟩
        · obtain rfl : j = 32 - lo := by omega
          have hle : ¬ (lo : Int) ≤ 31 - ((32 - lo : Nat) : Int) := by omega
          simp [hle, bp]
          rw [hn', List.length_append]
theorem c69 {d lim : Nat} {h : Heap} {lo hi : Nat} (h1 : lo ≤ 32) (h2 : 48 ≤ hi) (h3 : hi ≤ 87) : E.call (d + 2) lim 69 [i64 lo, i64 hi] h = some (.slice (some ⟨h.length, 0, none⟩) (ordL lo hi).length 2, h ++ [some ⟨cY (ordL lo hi), true⟩]) := by
  refine call_pure fn69 rfl (by simp [ef69]) ?_
  have k67 := fun lim hh => c67 (d := d) (lim := lim) (h := hh)
  have bp0 := cY_plain beaL
  simp [ef69, k67]
  refine wpC_loop (fun q st => ∃ k n g : Nat, q = hi - 44 - k ∧ k ≤ hi - 44 ∧ g = 45 + k ∧ n = (beaL ++ upL k).length ∧ st = ⟨[(0, i64 lo), (1, i64 hi), (5, .slice (some ⟨h.length, 0, none⟩) n 2), (6, i64 (g : Int))], h.freeze ++ [some ⟨cY (beaL ++ upL k), true⟩]⟩) (hi - 44) (by show hi - 44 < 2 ^ 64; omega) ?_ ?_
  · simp [St.tidy, bp0]
    exact ⟨0, by omega, by omega, ⟨rfl, by omega⟩, by simp [upL]⟩
  · rintro q hq _ ⟨k, n, g, rfl, hk, hg, hn, rfl⟩
    have bl : (cY (beaL ++ upL k)).length = n * 2 := by rw [cY_len, hn]
    have bp := cY_plain (beaL ++ upL k)
    have w1' := w1 (i := g) (by omega)
    simp only [W] at w1'
    have n0 : n ≠ 0 := by rw [hn, List.length_append]; simp [beaL]
    have nb : n ≤ 200 := by rw [hn, List.length_append, upL_len]; simp [beaL]; split <;> omega
    by_cases hlt : k < hi - 44
    · have hle : (g : Int) ≤ hi := by omega
      by_cases e : k = 3
      · have g48 : (g : Int) = 48 := by omega
        have eu : upL (k + 1) = upL k := by simp [upL, e]
        simp [hle, g48, w1', St.tidy, bp]
        exact ⟨fun _ => ⟨hi - 44 - (k + 1), by omega, k + 1, by omega, by omega, ⟨by rw [eu, hn, List.length_append], by rw [wrap_eq (by omega) (by omega)]; omega⟩, by rw [eu]⟩, fun z => absurd z (by omega)⟩
      · have g48 : ¬ (g : Int) = 48 := by omega
        have w12 : IntKind.wrap .i64 ((g : Int) - 12) = ((33 + k : Nat) : Int) := by rw [wrap_eq (by omega) (by omega)]; omega
        have hsn : cY (beaL ++ upL k) ++ [i64 ((33 + k : Nat) : Int), i64 (g : Int)] = cY (beaL ++ upL (k + 1)) := by rw [cY_snoc, hg]; simp [upL, e]
        have bp' := cY_plain (beaL ++ upL (k + 1))
        have hn' : n + 1 = (beaL ++ upL (k + 1)).length := by simp [upL, e, hn]; omega
        generalize 33 + k = g2 at *
        simp [hle, g48, w12, w1', n0, bl, hsn, bp', E.append, E.added, Value.oneCell', maxLen, St.tidy, Nat.add_assoc]
        exact ⟨⟨by omega, by omega⟩, hi - 44 - (k + 1), by omega, k + 1, by omega, by omega, ⟨by rw [hn', List.length_append], by omega⟩, rfl⟩
    · obtain rfl : k = hi - 44 := by omega
      have hle : ¬ (g : Int) ≤ hi := by omega
      have u1 : (beaL ++ upL (hi - 44)).length ≠ 0 := by rw [← hn]; exact n0
      have u2 : (beaL ++ upL (hi - 44)).length ≤ 100 := by rw [List.length_append, upL_len]; simp [beaL]; split <;> omega
      simp [hle]
      simp only [ordL]
      generalize beaL ++ upL (hi - 44) = U at *
      refine wpC_loop (fun q st => ∃ j n' : Nat, q = 32 - lo - j ∧ j ≤ 32 - lo ∧ n' = (U ++ dnL j).length ∧ st = ⟨[(0, i64 lo), (5, .slice (some ⟨h.length, 0, none⟩) n' 2), (7, i64 ((31 : Int) - j))], h.freeze ++ [some ⟨cY (U ++ dnL j), true⟩]⟩) (32 - lo) (by show 32 - lo < 2 ^ 64; omega) ?_ ?_
      · simp [St.tidy, bp]
        exact ⟨0, by omega, by omega, ⟨by rw [hn]; simp [dnL], by omega⟩, by simp [dnL]⟩
      · rintro q hq _ ⟨j, n', rfl, hj, hn', rfl⟩
        have bl : (cY (U ++ dnL j)).length = n' * 2 := by rw [cY_len, hn']
        have bp := cY_plain (U ++ dnL j)
        have n0 : n' ≠ 0 := by rw [hn', List.length_append]; omega
        have nb : n' ≤ 200 := by rw [hn', List.length_append, dnL_len]; omega
        by_cases hlt : j < 32 - lo
        · have hle : (lo : Int) ≤ 31 - j := by omega
          have w12 : IntKind.wrap .i64 ((31 : Int) - j + 12) = ((43 - j : Nat) : Int) := by rw [wrap_eq (by omega) (by omega)]; omega
          have wm : IntKind.wrap .i64 ((31 : Int) - j - 1) = (31 : Int) - ((j + 1 : Nat) : Int) := by rw [wrap_eq (by omega) (by omega)]; omega
          have e31 : (31 : Int) - j = ((31 - j : Nat) : Int) := by omega
          have hsn : cY (U ++ dnL j) ++ [i64 ((43 - j : Nat) : Int), i64 ((31 : Int) - j)] = cY (U ++ dnL (j + 1)) := by rw [cY_snoc, e31]; simp [dnL]
          have bp' := cY_plain (U ++ dnL (j + 1))
          have hn2 : n' + 1 = (U ++ dnL (j + 1)).length := by simp [dnL, hn']; omega
          generalize 43 - j = g2 at *
          simp [hle, w12, wm, n0, bl, hsn, bp', E.append, E.added, Value.oneCell', maxLen, St.tidy, Nat.add_assoc]
          exact ⟨⟨by omega, by omega⟩, 32 - lo - (j + 1), by omega, j + 1, by omega, by omega, ⟨by rw [hn2, List.length_append], by omega⟩, rfl⟩
        · obtain rfl : j = 32 - lo := by omega
          have hle : ¬ (lo : Int) ≤ 31 - ((32 - lo : Nat) : Int) := by omega
          simp [hle, bp]
          rw [hn', List.length_append]
end T
end Go.Abs
/- The order of all notes is accepted: plain law. -/
namespace Go.Abs
namespace T
set_option maxRecDepth 100000
set_option maxHeartbeats 0
theorem fol_app (lo hi : Int) : ∀ (a b m : List X2), fol lo hi (a ++ b) m = if (fol lo hi a m).1 = 0 then fol lo hi b (fol lo hi a m).2 else fol lo hi a m
  | [], b, m => by simp [fol]
  | x :: r, b, m => by
    rw [List.cons_append]
    simp only [fol]
    split
    · split
      · simp
      · split
        · simp
        · split
          · simp
          · exact fol_app lo hi r b _
    · simp
theorem fol_in {lo hi : Int} (h1 : 0 ≤ lo) (h2 : hi ≤ 87) : ∀ (r m : List X2), (∀ x ∈ r, (lo ≤ x.1 ∧ x.1 ≤ hi) ∧ lo ≤ x.2 ∧ x.2 ≤ hi) → fol lo hi r m = fol 0 87 r m
  | [], m, _ => rfl
  | x :: r, m, h => by
    obtain ⟨⟨a1, a2⟩, a3, a4⟩ := h x (by simp)
    have w1 : within x.1 lo hi = true := by simp [within]; omega
    have w2 : within x.2 lo hi = true := by simp [within]; omega
    have w3 : within x.1 0 87 = true := by simp [within]; omega
    have w4 : within x.2 0 87 = true := by simp [within]; omega
    simp only [fol]
    rw [if_pos (show within x.1 lo hi = true ∧ within x.2 lo hi = true from ⟨w1, w2⟩), if_pos (show within x.1 0 87 = true ∧ within x.2 0 87 = true from ⟨w3, w4⟩), fol_in h1 h2 r _ (fun y hy => h y (by simp [hy]))]
/-- Which notes are tuned. -/
def Tun (m : List X2) (a b : Int) : Prop := ∀ x, mLook m x ≠ none ↔ (a ≤ x ∧ x ≤ b) ∨ x = 48
def mB : List X2 := [(48, 48), (36, 48), (43, 36), (38, 43), (33, 38), (40, 33), (35, 40), (42, 35), (37, 42), (44, 37), (39, 44), (34, 39), (41, 34), (32, 44)]
theorem bea_fol : fol 0 87 beaL [(48, 48)] = (0, mB) := by decide +kernel
theorem bea_tun : Tun mB 32 44 := fun x => by
  have : mLook mB x ≠ none ↔ x ∈ mB.map (·.1) := by
    constructor
    · intro h; exact Decidable.byContradiction fun z => h (mLook_keys.2 z)
    · intro h z; exact mLook_keys.1 z h
  rw [this]
  simp [mB]
  omega
theorem rat12 : mLook ratL 12 ≠ none := by decide
theorem step_fol {m : List X2} {f t : Int} {r : List X2} (w : (0 ≤ f ∧ f ≤ 87) ∧ 0 ≤ t ∧ t ≤ 87) (hf : mLook m f ≠ none) (ht : mLook m t = none) (hd : dist f t = 12) : fol 0 87 ((f, t) :: r) m = fol 0 87 r (m ++ [(t, f)]) := by
  have w1 : within f 0 87 = true := by simp [within]; omega
  have w2 : within t 0 87 = true := by simp [within]; omega
  simp only [fol]
  rw [if_pos ⟨w1, w2⟩, if_neg hf, if_neg (fun z => z ht), hd, if_neg rat12]
theorem tun_add {m : List X2} {a b a' b' t f : Int} (h : Tun m a b) (hx : ∀ x, ((a' ≤ x ∧ x ≤ b') ∨ x = 48) ↔ ((a ≤ x ∧ x ≤ b) ∨ x = 48) ∨ x = t) : Tun (m ++ [(t, f)]) a' b' := fun x => by
  rw [hx, ← h x, mLook_snoc]
  rcases e : mLook m x with _ | v
  · simp only [ne_eq, not_true_eq_false, false_or]
    by_cases q : x = t <;> simp [q]
  · simp
theorem up_fol {m0 : List X2} (h0 : Tun m0 32 44) : ∀ k, k ≤ 43 → ∃ m, fol 0 87 (upL k) m0 = (0, m) ∧ Tun m 32 (44 + k) ∧ m.length = m0.length + (upL k).length
  | 0, _ => ⟨m0, rfl, by simpa using h0, rfl⟩
  | k + 1, hk => by
    obtain ⟨m, e, t, l⟩ := up_fol h0 k (by omega)
    by_cases q : k = 3
    · have eu : upL (k + 1) = upL k := by simp [upL, q]
      rw [eu]
      refine ⟨m, e, fun x => ?_, l⟩
      rw [t x]
      subst q
      constructor
      · rintro (z | z)
        · exact .inl ⟨by omega, by omega⟩
        · exact .inr z
      · rintro (z | z)
        · by_cases z' : x = 48
          · exact .inr z'
          · exact .inl ⟨by omega, by omega⟩
        · exact .inr z
    · have eu : upL (k + 1) = upL k ++ [(((33 + k : Nat) : Int), ((45 + k : Nat) : Int))] := by simp [upL, q]
      have hf : mLook m ((33 + k : Nat) : Int) ≠ none := (t _).2 (.inl ⟨by omega, by omega⟩)
      have ht : mLook m ((45 + k : Nat) : Int) = none := Decidable.byContradiction fun z => by
        have := (t _).1 z; omega
      refine ⟨m ++ [(((45 + k : Nat) : Int), ((33 + k : Nat) : Int))], ?_, ?_, ?_⟩
      · rw [eu, fol_app, e, if_pos rfl, step_fol ⟨⟨by omega, by omega⟩, by omega, by omega⟩ hf ht (by unfold dist; omega)]; rfl
      · exact tun_add t (fun x => by omega)
      · rw [eu, List.length_append, List.length_append, l]; simp; omega
theorem dn_fol {m0 : List X2} {b : Int} (hb : 44 ≤ b) (h0 : Tun m0 32 b) : ∀ j, j ≤ 32 → ∃ m, fol 0 87 (dnL j) m0 = (0, m) ∧ Tun m (32 - j) b ∧ m.length = m0.length + (dnL j).length
  | 0, _ => ⟨m0, rfl, by simpa using h0, rfl⟩
  | j + 1, hj => by
    obtain ⟨m, e, t, l⟩ := dn_fol hb h0 j (by omega)
    have eu : dnL (j + 1) = dnL j ++ [(((43 - j : Nat) : Int), ((31 - j : Nat) : Int))] := rfl
    have hf : mLook m ((43 - j : Nat) : Int) ≠ none := (t _).2 (.inl ⟨by omega, by omega⟩)
    have ht : mLook m ((31 - j : Nat) : Int) = none := Decidable.byContradiction fun z => by
      have := (t _).1 z; omega
    refine ⟨m ++ [(((31 - j : Nat) : Int), ((43 - j : Nat) : Int))], ?_, ?_, ?_⟩
    · rw [eu, fol_app, e, if_pos rfl, step_fol ⟨⟨by omega, by omega⟩, by omega, by omega⟩ hf ht (by unfold dist; omega)]; rfl
    · exact tun_add t (fun x => by omega)
    · rw [eu, List.length_append, List.length_append, l]; simp; omega
theorem upL_in : ∀ k, ∀ x ∈ upL k, (33 ≤ x.1 ∧ x.1 ≤ 32 + k) ∧ 33 ≤ x.2 ∧ x.2 ≤ 44 + k
  | 0, x, h => by simp [upL] at h
  | k + 1, x, h => by
    simp only [upL, List.mem_append] at h
    rcases h with h | h
    · have := upL_in k x h; omega
    · split at h
      · simp at h
      · simp at h; rw [h]; simp only; omega
theorem dnL_in : ∀ j, j ≤ 32 → ∀ x ∈ dnL j, (32 - (j : Int) ≤ x.1 ∧ x.1 ≤ 43) ∧ 32 - (j : Int) ≤ x.2 ∧ x.2 ≤ 43
  | 0, _, x, h => by simp [dnL] at h
  | j + 1, hj, x, h => by
    simp only [dnL, List.mem_append] at h
    rcases h with h | h
    · have := dnL_in j (by omega) x h; omega
    · simp at h; rw [h]; simp only; omega
theorem ord_len {lo hi : Nat} (h1 : lo ≤ 32) (h2 : 48 ≤ hi) : (ordL lo hi).length = hi - lo := by
  unfold ordL
  rw [List.length_append, List.length_append, upL_len, dnL_len, if_pos (by omega)]
  simp [beaL]; omega
theorem ord_ok {lo hi : Nat} (h1 : lo ≤ 32) (h2 : 48 ≤ hi) (h3 : hi ≤ 87) : chkOr lo hi (ordL lo hi) = 0 := by
  have hl := ord_len h1 h2
  have hin : ∀ x ∈ ordL lo hi, ((lo : Int) ≤ x.1 ∧ x.1 ≤ hi) ∧ (lo : Int) ≤ x.2 ∧ x.2 ≤ hi := fun x hx => by
    unfold ordL at hx
    rw [List.mem_append, List.mem_append] at hx
    rcases hx with (hx | hx) | hx
    · have hall : ∀ x ∈ beaL, (32 ≤ x.1 ∧ x.1 ≤ 48) ∧ 32 ≤ x.2 ∧ x.2 ≤ 48 := by decide
      have := hall x hx; omega
    · have := upL_in _ x hx; omega
    · have := dnL_in _ (by omega) x hx; omega
  have hf : ∃ m, fol lo hi (ordL lo hi) [(48, 48)] = (0, m) ∧ m.length = hi - lo + 1 := by
    rw [fol_in (by omega) (by omega) _ _ hin]
    obtain ⟨m1, e1, t1, l1⟩ := up_fol bea_tun (hi - 44) (by omega)
    obtain ⟨m2, e2, t2, l2⟩ := dn_fol (by omega) t1 (32 - lo) (by omega)
    refine ⟨m2, ?_, ?_⟩
    · unfold ordL
      rw [fol_app, fol_app, bea_fol]
      simp only [if_true, e1, e2]
    · rw [l2, l1, dnL_len, upL_len, if_pos (by omega)]
      simp [mB]; omega
  obtain ⟨m, e, lm⟩ := hf
  have er : folR lo hi (ordL lo hi) = (0, m) := by
    unfold folR; rw [if_neg (by omega), e]
  unfold chkOr
  rw [if_pos ⟨isNote_mk (by omega), isNote_mk h3, by omega, by omega⟩, er]
  simp only [ne_eq, not_true_eq_false, if_false]
  rw [if_pos (by omega)]
theorem law14 (lim : Nat) {h : Heap} (A : AwOk h) {lo hi : Int} : E.call 21 lim 14 [i64 lo, i64 hi] h = some (.bool true, h) := by
  have a1 := A
  unfold AwOk at a1
  have a0 : ∀ lim, E.call 20 lim 19 [] h.freeze = some (.bool true, h.freeze) := fun lim => by simpa using a1 lim []
  have k66 := fun lim hh => c66' (d := 19) (lim := lim) (h := hh)
  have k67 := fun lim hh => c67 (d := 19) (lim := lim) (h := hh)
  have g1 : ∀ L, Heap.get (h.freeze ++ (some ⟨cY beaL, true⟩ :: L)) h.length = some ⟨cY beaL, true⟩ := fun L => by rw [hget_base0 (by simp)]; rfl
  have g2 : ∀ A L, Heap.get (h.freeze ++ (A :: some ⟨cY beaL, true⟩ :: L)) (h.length + 1) = some ⟨cY beaL, true⟩ := fun A L => by rw [hget_base (by simp)]; rfl
  have k65 := fun lim => c65 (d := 19) (lim := lim) (SlY_own (g1 [some ⟨cY beaL, true⟩]) (n := 13) rfl) (SlY_own (g2 (some ⟨cY beaL, true⟩) []) (n := 13) rfl) (by decide)
  have k60 := fun lim hh a b c => @c60 19 lim hh a b c
  simp at k65
  refine call1 fn14 rfl (by simp [ef14]) ?_
  by_cases hn : noteOr lo hi = true
  · have hn' := hn
    simp [noteOr, within] at hn'
    have wl : within lo 0 32 = true := by simp [within]; omega
    have wh : within hi 48 87 = true := by simp [within]; omega
    obtain ⟨lo, rfl⟩ : ∃ k : Nat, lo = k := ⟨lo.toNat, by omega⟩
    obtain ⟨hi, rfl⟩ : ∃ k : Nat, hi = k := ⟨hi.toNat, by omega⟩
    have k68 := fun lim hh => c68 (d := 18) (lim := lim) (h := hh) (lo := lo) (hi := hi) (by omega) (by omega) (by omega)
    have ok := ord_ok (lo := lo) (hi := hi) (by omega) (by omega) (by omega)
    have k69 := fun lim hh => c69 (d := 18) (lim := lim) (h := hh) (lo := lo) (hi := hi) (by omega) (by omega) (by omega)
    have bo := cY_plain (ordL lo hi)
    have ol := ord_len (lo := lo) (hi := hi) (by omega) (by omega)
    generalize ordL lo hi = o at *
    have gA : Heap.get (h.freeze ++ [some ⟨cY beaL, true⟩, some ⟨cY beaL, true⟩, some ⟨cY o, true⟩, some ⟨cY o, true⟩]) (h.length + 2) = some ⟨cY o, true⟩ := by rw [hget_base (by simp)]; rfl
    have gB : Heap.get (h.freeze ++ [some ⟨cY beaL, true⟩, some ⟨cY beaL, true⟩, some ⟨cY o, true⟩, some ⟨cY o, true⟩]) (h.length + 3) = some ⟨cY o, true⟩ := by rw [hget_base (by simp)]; rfl
    have o65 := fun lim => c65 (d := 19) (lim := lim) (SlY_own gA rfl) (SlY_own gB rfl) (by omega)
    have o63 := fun lim => c63 (d := 16) (lim := lim) (lo := (lo : Int)) (hi := (hi : Int)) (SlY_own gA rfl)
    rw [ok] at o63
    simp at o65
    simp [o65, o63, ef14, a0, a1, k66, k67, k65, k68, k69, k60, wl, wh, bo]
  · simp only [Bool.not_eq_true] at hn
    have k68 := fun lim hh => c68e (d := 18) (lim := lim) (h := hh) hn
    have hc : within lo 0 32 = true → within hi 48 87 = false := fun q => by
      unfold noteOr at hn; rw [q] at hn; simpa using hn
    by_cases q : within lo 0 32 = true
    · simp [ef14, a0, a1, k66, k67, k65, k68, k60, q, hc q]
    · simp [ef14, a0, a1, k66, k67, k65, k68, k60, q]
theorem temperOrders_law : ∀ (bs : List (Option Blk)) us, Heap.freeze ([primesB] ++ bs) = [primesB] ++ bs → (∀ n, ctBlocks (([(false, [ctI]), (false, [ctI])] : List (Bool × List CT)).flatMap (·.2)) = some n → bs.length = n) →
    ArgsV 6 ([primesB] ++ bs) [(false, [ctI]), (false, [ctI])] us → ∃ h', E.call 21 (([primesB] : Heap) ++ bs).length 14 us ([primesB] ++ bs) = some (.bool true, h') := by
  intro bs us _ k a
  obtain ⟨v, w, rfl, a2, a3⟩ := args2 a
  obtain ⟨_, rfl, _⟩ := arg_int a2
  obtain ⟨_, rfl, _⟩ := arg_int a3
  exact ⟨_, law14 _ (awOk bs)⟩
end T
end Go.Abs
