/- Against: both; lists of numbers compared. -/
import Derived.Test.YtinbdefjjfmfoaaDoorAbsTH12
set_option linter.unusedSimpArgs false
set_option linter.unusedVariables false
namespace Go.Abs
namespace T
set_option maxRecDepth 100000
set_option maxHeartbeats 0
theorem c76 {d lim : Nat} {h : Heap} {v w : Value} {l r : List Int} (s : SlI h v l) (t : SlI h w r) (hl : l.length < 100000) : E.call (d + 1) lim 76 [v, w] h = some (.bool (decide (l = r)), h) := by
  have rs := s.rules2
  have rt := t.rules2
  refine call1 fn76 rfl (by simp [ef76]) ?_
  by_cases hlen : l.length = r.length
  · simp [ef76, rs, rt, hlen]
    refine wpC_loop (fun q st => ∃ i : Nat, q = l.length - i ∧ i ≤ l.length ∧ (∀ j, j < i → l[j]? = r[j]?) ∧ st = ⟨[(0, v), (1, w), (5, i64 i)], h.freeze⟩) l.length (by show l.length < 2 ^ 64; omega) ?_ ?_
    · simp [St.tidy, rs, rt]
      exact ⟨0, by omega, by omega, fun j hj => absurd hj (by omega), rfl⟩
    · rintro q hq _ ⟨i, rfl, hi, hb, rfl⟩
      by_cases hlt : i < l.length
      · have hlt' : i < r.length := by omega
        have w1' := w1 (i := i) (by omega)
        simp only [W] at w1'
        have gl := cI_at' hlt
        have gr := cI_at' hlt'
        have e1 : l[i]? = some l[i] := List.getElem?_eq_getElem hlt
        have e2 : r[i]? = some r[i] := List.getElem?_eq_getElem hlt'
        by_cases q1 : l[i] = r[i]
        · have nx : ∀ j, j < i + 1 → l[j]? = r[j]? := fun j hj => by
            by_cases e : j = i
            · rw [e, e1, e2, q1]
            · exact hb j (by omega)
          simp [hlt, hlt', rs, rt, gl, gr, q1, w1', St.tidy]
          exact ⟨⟨l.length - (i + 1), by omega, i + 1, rfl, by omega, nx, rfl⟩, fun q => absurd q (by omega)⟩
        · have ne : ¬ l = r := fun q => by subst q; exact q1 rfl
          simp [hlt, hlt', rs, rt, gl, gr, q1, ne]
      · obtain rfl : i = l.length := by omega
        have eq : l = r := by
          apply List.ext_getElem?
          intro j
          by_cases hj : j < l.length
          · exact hb j hj
          · rw [List.getElem?_eq_none (by omega), List.getElem?_eq_none (by omega)]
        subst eq
        simp [rs]
  · have ne : ¬ l = r := fun q => hlen (by rw [q])
    have ne2 : ¬ ((l.length : Int) = (r.length : Int)) := by omega
    simp [ef76, rs, rt, ne, ne2]
/-- A class over A. -/
def ovA (P S : Nat → Int) (c : Nat) : X3 := addZ (clsX P S c) (-1) (clsX P S 9)
theorem ovA_ok {P S : Nat → Int} (o : Okt P S) {c : Nat} (hc : c < 12) : plusX (clsX P S c) (-1) (clsX P S 9) = ovA P S c ∧ isP (ovA P S c) = true := by
  unfold ovA
  obtain ⟨e1, b1⟩ := clsX_eq o c
  obtain ⟨e2, b2⟩ := clsX_eq o 9
  rw [e1, e2]
  refine ⟨(plusX_eq (n := -1) (N := 1) b1 b2 (by omega) (by omega) (by omega)).1, ?_⟩
  obtain ⟨n1, n2, n3⟩ := cls_near' o (a := c) (b := 9) hc (by omega)
  obtain ⟨n4, n5, n6⟩ := cls_near' o (a := 9) (b := c) (by omega) hc
  refine (isP_mk ?_ ?_ ?_).1
  · simp only [addZ]; omega
  · simp only [addZ]; omega
  · simp only [addZ]; omega
def agL (P S P' S' : Nat → Int) : Nat → List Int
  | 0 => []
  | i + 1 => agL P S P' S' i ++ [ordX (ovA P S i) (ovA P' S' i)]
theorem agL_len (P S P' S' : Nat → Int) : ∀ i, (agL P S P' S' i).length = i
  | 0 => rfl
  | i + 1 => by simp [agL, agL_len P S P' S' i]
theorem agL_self (P S : Nat → Int) : ∀ i, agL P S P S i = List.replicate i 0
  | 0 => rfl
  | i + 1 => by rw [agL, agL_self P S i, ordX_self, List.replicate_succ']
theorem cI_snoc (l : List Int) (x : Int) : cI l ++ [i64 x] = cI (l ++ [x]) := by simp [cI]
def errA (nm nm' : ByteArray) (P S P' S' : Nat → Int) : Int := if chkT nm P S ≠ 0 then chkT nm P S else chkT nm' P' S'
theorem c73e {d lim : Nat} {h : Heap} {C C' : List Value} {nm nm' : ByteArray} {P S P' S' : Nat → Int} (t : Tm C nm P S) (hs : nm.size ≤ 1000) (t' : Tm C' nm' P' S') (hs' : nm'.size ≤ 1000) (h0 : errA nm nm' P S P' S' ≠ 0) :
    E.call (d + 6) lim 73 [.agg C.toArray, .agg C'.toArray] h = some (.tuple #[.slice none 0 0, i64 (errA nm nm' P S P' S')], h) := by
  refine call1 fn73 rfl (by simp [ef73]) ?_
  by_cases h1 : chkT nm P S = 0
  · have e : errA nm nm' P S P' S' = chkT nm' P' S' := by simp [errA, h1]
    rw [e] at h0 ⊢
    have k84 := fun lim L => c84 (d := d) (lim := lim) (h := L) t hs SlBo_nil (by simp) h1 (by simp)
    have k84' := fun lim hh v => c84b (d := d) (lim := lim) (h := hh) (v := v) t' hs' h0
    simp [ef73, t.len, t.take, t'.len, t'.take, k84, k84', h0]
  · have e : errA nm nm' P S P' S' = chkT nm P S := by simp [errA, h1]
    rw [e]
    have k84 := fun lim hh v => c84b (d := d) (lim := lim) (h := hh) (v := v) t hs h1
    simp [ef73, t.len, t.take, k84, h1]
theorem c73 {d lim : Nat} {h : Heap} {C C' : List Value} {nm nm' : ByteArray} {P S P' S' : Nat → Int} (sp : SlU h (.slice (some ⟨0, 0, none⟩) 3 1) [2, 3, 5]) (t : Tm C nm P S) (hs : nm.size ≤ 1000) (t' : Tm C' nm' P' S') (hs' : nm'.size ≤ 1000) (h0 : chkT nm P S = 0) (h0' : chkT nm' P' S' = 0) :
    E.call (d + 8) lim 73 [.agg C.toArray, .agg C'.toArray] h = some (.tuple #[.slice (some ⟨h.length, 0, none⟩) 12 1, i64 0], h ++ [some ⟨cI (agL P S P' S' 12), true⟩]) := by
  obtain ⟨o, _⟩ := okt h0
  obtain ⟨o', _⟩ := okt h0'
  have sp2 : ∀ L, SlU (h.freeze ++ L) (.slice (some ⟨0, 0, none⟩) 3 1) [2, 3, 5] := fun L => (Sl_freeze.2 sp).app L
  have k84 := fun lim L => c84 (d := d + 2) (lim := lim) (h := L) t hs SlBo_nil (by simp) h0 (by simp)
  have k84' := fun lim L => c84 (d := d + 2) (lim := lim) (h := L) t' hs' SlBo_nil (by simp) h0' (by simp)
  have kp := Cir.plain (K := circK P S) (P := P) (S := S) rfl
  have kp' := Cir.plain (K := circK P' S') (P := P') (S := S') rfl
  refine call_pure fn73 rfl (by simp [ef73]) ?_
  simp [ef73, t.len, t.take, t'.len, t'.take, k84, k84']
  refine wpC_loop (fun q st => ∃ i, q = 12 - i ∧ i ≤ 12 ∧ ((i = 0 ∧ st = ⟨[(6, .pointer (some ⟨h.length, 0, none⟩)), (8, .pointer (some ⟨h.length + 1, 0, none⟩)), (9, .slice none 0 0), (27, i64 i)], h.freeze ++ [some ⟨circK P S, true⟩, some ⟨circK P' S', true⟩]⟩) ∨
    (0 < i ∧ st = ⟨[(6, .pointer (some ⟨h.length, 0, none⟩)), (8, .pointer (some ⟨h.length + 1, 0, none⟩)), (9, .slice (some ⟨h.length + 2, 0, none⟩) i 1), (27, i64 i)], h.freeze ++ [some ⟨circK P S, true⟩, some ⟨circK P' S', true⟩, some ⟨cI (agL P S P' S' i), true⟩]⟩))) 12 (by show 12 < 2 ^ 64; omega) ?_ ?_
  · simp [St.tidy, kp, kp']
    exact ⟨0, by omega, by omega, rfl, rfl⟩
  · rintro q hq _ ⟨i, rfl, hi, hst⟩
    have bl := agL_len P S P' S' i
    have bp := cI_plain (agL P S P' S' i)
    have bp' := cI_plain (agL P S P' S' (i + 1))
    have gk : ∀ L, Heap.get (h.freeze ++ (some ⟨circK P S, true⟩ :: L)) h.length = some ⟨circK P S, true⟩ := fun L => by rw [hget_base0 (by simp)]; rfl
    have gk' : ∀ A L, Heap.get (h.freeze ++ (A :: some ⟨circK P' S', true⟩ :: L)) (h.length + 1) = some ⟨circK P' S', true⟩ := fun A L => by rw [hget_base (by simp)]; rfl
    by_cases hlt : i < 12
    · have f1 := fun L => part_cls (gk L) hlt
      have f2 := fun L => part_cls (gk L) (j := 9) (by omega)
      have f3 := fun A L => part_cls (gk' A L) hlt
      have f4 := fun A L => part_cls (gk' A L) (j := 9) (by omega)
      obtain ⟨v1, v2⟩ := ovA_ok o hlt
      obtain ⟨v3', v4⟩ := ovA_ok o' hlt
      have k1 := fun lim hh => @c122 (d + 6) lim hh (clsX P S i) (clsX P S 9) (-1)
      have k2 := fun lim hh => @c122 (d + 6) lim hh (clsX P' S' i) (clsX P' S' 9) (-1)
      rw [v1] at k1
      rw [v3'] at k2
      have k3 := fun lim L => c121' (d := d) (lim := lim) (sp2 L) v2 v4
      have hb : cI (agL P S P' S' i) ++ [i64 (ordX (ovA P S i) (ovA P' S' i))] = cI (agL P S P' S' (i + 1)) := cI_snoc _ _
      have w1' := w1 (i := i) (by omega)
      simp only [W] at w1'
      have h1 : (i : Int) < 12 := by omega
      generalize ordX (ovA P S i) (ovA P' S' i) = O at *
      generalize ovA P S i = Y1 at *
      generalize ovA P' S' i = Y2 at *
      obtain ⟨y1, y2, y3⟩ := Y1
      obtain ⟨y1', y2', y3'⟩ := Y2
      generalize clsX P S i = X1 at *
      generalize clsX P S 9 = X2 at *
      generalize clsX P' S' i = X3 at *
      generalize clsX P' S' 9 = X4 at *
      obtain ⟨a1, a2, a3⟩ := X1
      obtain ⟨b1, b2, b3⟩ := X2
      obtain ⟨c1, c2, c3⟩ := X3
      obtain ⟨d1, d2, d3⟩ := X4
      rcases hst with ⟨rfl, rfl⟩ | ⟨h0i, rfl⟩
      · simp only [agL, List.nil_append] at hb
        simp at f1 f2 f3 f4
        simp [h1, f1, f2, f3, f4, k1, k2, k3, E.append, E.added, Value.oneCell', maxLen, St.tidy, kp, kp', Nat.add_assoc]
        exact ⟨11, by omega, 1, by omega, by omega, by omega, ⟨rfl, rfl⟩, hb⟩
      · have i0 : i ≠ 0 := by omega
        simp at f2 f4
        simp [h1, f1, f2, f3, f4, k1, k2, k3, w1', i0, bl, E.append, E.added, Value.oneCell', maxLen, St.tidy, kp, kp', hb, bp', Nat.add_assoc]
        exact ⟨by omega, 12 - (i + 1), by omega, i + 1, rfl, by omega, by omega, ⟨rfl, rfl⟩, rfl⟩
    · obtain rfl : i = 12 := by omega
      rcases hst with ⟨h1, _⟩ | ⟨h0i, rfl⟩
      · omega
      · simp [St.tidy, bp]
theorem c77 {d lim : Nat} {h : Heap} {C C' : List Value} {nm nm' : ByteArray} {P S P' S' : Nat → Int} (t : Tm C nm P S) (t' : Tm C' nm' P' S') (o : Okt P S) (o' : Okt P' S') :
    E.call (d + 6) lim 77 [.agg C.toArray, .agg C'.toArray] h = some (.slice (some ⟨h.length, 0, none⟩) 12 1, h ++ [some ⟨cI (agL P S P' S' 12), true⟩]) := by
  refine call_pure fn77 rfl (by simp [ef77]) ?_
  simp [ef77]
  refine wpC_loop (fun q st => ∃ i, q = 12 - i ∧ i ≤ 12 ∧ ((i = 0 ∧ st = ⟨[(2, .pointer (some ⟨h.length, 0, none⟩)), (3, .pointer (some ⟨h.length + 1, 0, none⟩)), (5, .slice none 0 0), (6, i64 i)], h.freeze ++ [some ⟨C, true⟩, some ⟨C', true⟩]⟩) ∨
    (0 < i ∧ st = ⟨[(2, .pointer (some ⟨h.length, 0, none⟩)), (3, .pointer (some ⟨h.length + 1, 0, none⟩)), (5, .slice (some ⟨h.length + 2, 0, none⟩) i 1), (6, i64 i)], h.freeze ++ [some ⟨C, true⟩, some ⟨C', true⟩, some ⟨cI (agL P S P' S' i), true⟩]⟩))) 12 (by show 12 < 2 ^ 64; omega) ?_ ?_
  · simp [St.tidy, t.plain, t'.plain]
    exact ⟨0, by omega, by omega, rfl, rfl⟩
  · rintro q hq _ ⟨i, rfl, hi, hst⟩
    have bl := agL_len P S P' S' i
    have bp := cI_plain (agL P S P' S' i)
    have bp' := cI_plain (agL P S P' S' (i + 1))
    by_cases hlt : i < 12
    · obtain ⟨v1, v2⟩ := ovA_ok o hlt
      obtain ⟨v3', v4⟩ := ovA_ok o' hlt
      have f1 := fun lim hh => c48 (d := d + 2) (lim := lim) (h := hh) t hlt
      have f2 := fun lim hh => c48 (d := d + 2) (lim := lim) (h := hh) t (k := 9) (by omega)
      have f3 := fun lim hh => c48 (d := d + 2) (lim := lim) (h := hh) t' hlt
      have f4 := fun lim hh => c48 (d := d + 2) (lim := lim) (h := hh) t' (k := 9) (by omega)
      simp only [Int.cast_ofNat_Int] at f2 f4
      have k1 := fun lim hh => @c91 (d + 4) lim hh (clsX P S i) (clsX P S 9) (-1)
      have k2 := fun lim hh => @c91 (d + 4) lim hh (clsX P' S' i) (clsX P' S' 9) (-1)
      rw [v1] at k1
      rw [v3'] at k2
      have k3 := fun lim L => c123' (d := d) (lim := lim) (h := L) v2 v4
      have hb : cI (agL P S P' S' i) ++ [i64 (ordX (ovA P S i) (ovA P' S' i))] = cI (agL P S P' S' (i + 1)) := cI_snoc _ _
      have w1' := w1 (i := i) (by omega)
      simp only [W] at w1'
      have h1 : (i : Int) < 12 := by omega
      generalize ordX (ovA P S i) (ovA P' S' i) = O at *
      generalize ovA P S i = Y1 at *
      generalize ovA P' S' i = Y2 at *
      obtain ⟨y1, y2, y3⟩ := Y1
      obtain ⟨y1', y2', y3'⟩ := Y2
      generalize clsX P S i = X1 at *
      generalize clsX P S 9 = X2 at *
      generalize clsX P' S' i = X3 at *
      generalize clsX P' S' 9 = X4 at *
      obtain ⟨a1, a2, a3⟩ := X1
      obtain ⟨b1, b2, b3⟩ := X2
      obtain ⟨c1, c2, c3⟩ := X3
      obtain ⟨d1, d2, d3⟩ := X4
      rcases hst with ⟨rfl, rfl⟩ | ⟨h0i, rfl⟩
      · simp only [agL, List.nil_append] at hb
        simp only [Int.natCast_zero] at f1 f3
        simp [t.len, t.take, t'.len, t'.take, f1, f2, f3, f4, k1, k2, k3, E.append, E.added, Value.oneCell', maxLen, St.tidy, t.plain, t'.plain, Nat.add_assoc]
        exact ⟨11, by omega, 1, by omega, by omega, by omega, ⟨rfl, rfl⟩, hb⟩
      · have i0 : i ≠ 0 := by omega
        simp [h1, t.len, t.take, t'.len, t'.take, f1, f2, f3, f4, k1, k2, k3, w1', i0, bl, E.append, E.added, Value.oneCell', maxLen, St.tidy, t.plain, t'.plain, hb, bp', Nat.add_assoc]
        exact ⟨by omega, 12 - (i + 1), by omega, i + 1, rfl, by omega, by omega, ⟨rfl, rfl⟩, rfl⟩
    · obtain rfl : i = 12 := by omega
      rcases hst with ⟨h1, _⟩ | ⟨h0i, rfl⟩
      · omega
      · simp [St.tidy, bp]
end T
end Go.Abs
