/- Texts of chapter 7: what is written is read back; plain. -/
import Derived.Test.YtllhkifkiabkbaaGreatDoorAbsHY0
import Derived.Test.YtllhkifkiabkbaaGreatDoorAbsHXC
set_option linter.unusedSimpArgs false
set_option linter.unusedVariables false
/- Texts of chapter 7: what is written is read back; plain. -/
namespace Go.Abs
namespace H.U
set_option maxRecDepth 100000
set_option maxHeartbeats 0
set_option linter.unusedSimpArgs false
theorem rdg_back {a b : Int} (h : rdE a b = 0) : rdgV (whl 7) (rowL [a, b]) = (a, b, 0) := by
  have q : within a 0 100000 = true ∧ within b 0 1000 = true := by
    unfold rdE at h
    by_cases q : within a 0 100000 = true ∧ within b 0 1000 = true
    · exact q
    · rw [if_neg q] at h; cases h
  unfold within at q
  simp at q
  have n := nm_row (d := 7) (cnt := 2) (l := [a, b]) (by decide) (by decide) (by simp) rfl (by
    intro n hn
    simp at hn
    rcases hn with rfl | rfl
    · omega
    · omega)
  unfold rdgV
  rw [n]
  show (if true = true then (if rdE a b = 0 then (a, b, (0 : Int)) else (0, 0, 2)) else (0, 0, 7)) = _
  rw [if_pos rfl, if_pos h]
theorem prs_same (s : List UInt8) : prsU (whl 10) s = prsU (rdn 10) s := by
  unfold prsU; rw [rdL_same (by decide) (by decide)]
theorem within_abs {x a b : Int} (h : within x a b = true) (ha : -1000000000 ≤ a) (hb : b ≤ 1000000000) : x.natAbs < 10 ^ 10 := by
  unfold within at h
  simp at h
  omega
theorem chkN_abs {l : List P6} (h : chkN l = 0) {i : Nat} (hi : i < l.length) : ∀ n ∈ six (at6 l i), n.natAbs < 10 ^ 10 := by
  have hl := chkN_le h
  unfold chkN at h
  rw [if_neg (by omega), fstE_all _ 0 rfl] at h
  have e := h i (by omega) hi
  unfold ctErr at e
  by_cases z : chkX (at6 l i).1.1 (at6 l i).1.2.1 (at6 l i).1.2.2.1 (at6 l i).1.2.2.2 = 0
  case neg => rw [if_neg z] at e; exact absurd e z
  rw [if_pos z] at e
  by_cases y : has4 ((tsL l).take i) (at6 l i).1 = true
  case pos => rw [if_pos y] at e; cases e
  rw [if_neg y] at e
  unfold rErr at e
  split at e
  case isFalse => cases e
  rename_i q
  unfold chkX at z
  split at z
  case isFalse => cases z
  rename_i r
  intro n hn
  simp only [six, List.mem_cons, List.not_mem_nil, or_false] at hn
  rcases hn with rfl | rfl | rfl | rfl | rfl | rfl
  · exact within_abs r.1 (by decide) (by decide)
  · exact within_abs r.2.1 (by decide) (by decide)
  · exact within_abs r.2.2.1 (by decide) (by decide)
  · exact within_abs r.2.2.2 (by decide) (by decide)
  · exact within_abs q.1 (by decide) (by decide)
  · exact within_abs q.2 (by decide) (by decide)
theorem prs_back {l : List P6} (h : chkN l = 0) : prsU (whl 10) (prU l l.length) = (l, 0, 0) := by
  have hl := chkN_le h
  have len := prU_len (l := l) (fun j hj => chkN_R6 h hj) l.length (Nat.le_refl _)
  have back := rd_back (d := 10) (cnt := 6) (by decide) (by decide) (by decide) (ls := l.map six) (by
    intro x hx
    obtain ⟨c, hc, rfl⟩ := List.mem_map.1 hx
    obtain ⟨i, hi, rfl⟩ := List.getElem_of_mem hc
    have := chkN_abs h hi
    unfold at6 at this
    rw [List.getElem?_eq_getElem hi] at this
    exact ⟨rfl, this⟩)
  have lines := prU_lines l l.length (Nat.le_refl _)
  rw [List.take_length] at lines
  have m : (l.map fun c => rowL (six c)) = (l.map six).map rowL := by simp
  rw [m] at lines
  rw [← lines] at back
  have id : (l.map six).map toP6 = l := by
    rw [List.map_map]
    have : (toP6 ∘ six) = id := rfl
    rw [this, List.map_id]
  unfold prsU
  rw [if_neg (by omega), back]
  show (if (0 : Int) = 0 then (if chkN ((l.map six).map toP6) = 0 then ((l.map six).map toP6, 0, (0 : Int)) else ([], 0, chkN ((l.map six).map toP6))) else ([], 0, 7)) = _
  rw [if_pos rfl, id, if_pos h]
theorem prU_big {l : List P6} (h : chkN l = 0) : (prU l l.length).length < 100000 := by
  have hl := chkN_le h
  have len := prU_len (l := l) (fun j hj => chkN_R6 h hj) l.length (Nat.le_refl _)
  omega
end H.U
end Go.Abs
/- Texts of chapter 7: the law walked. -/
namespace Go.Abs
namespace H.U
set_option maxRecDepth 100000
set_option maxHeartbeats 0
set_option linter.unusedSimpArgs false
theorem prs_len (R : List UInt8 → Int × Bool) (s : List UInt8) : (prsU R s).1.length ≤ 100000 := by
  unfold prsU
  split
  · simp
  split
  · split
    · rename_i z
      have := chkN_le z
      simp only at this ⊢
      omega
    · simp
  · simp
/-- What the calls of the law give, on the heap behind what is given. -/
structure K4 (h : Heap) (v : Value) (l : List P6) (a b : Int) (s T : List UInt8) (r1 r2 : Int × Int × Int) (p : List P6 × Nat × Int) : Prop where
  k17 : ∀ L, E1.call 30 h.length 17 [tx s] (h.freeze ++ L) = some (tuR r1, h.freeze ++ L)
  k18 : ∀ L, E1.call 30 h.length 18 [tx s] (h.freeze ++ L) = some (tuR r1, h.freeze ++ L)
  k19 : ∀ L, E1.call 30 h.length 19 [c2 a b] (h.freeze ++ L) = some (tx T, h.freeze ++ L)
  k20 : ∀ L, E1.call 30 h.length 20 [c2 a b] (h.freeze ++ L) = some (tx T, h.freeze ++ L)
  k17t : ∀ L, E1.call 30 h.length 17 [tx T] (h.freeze ++ L) = some (tuR r2, h.freeze ++ L)
  k21 : ∀ L k rw, Heap.get (h.freeze ++ L) k = some ⟨[i64 a, i64 b], rw⟩ → E1.call 30 h.length 21 [.slice (some ⟨k, 0, none⟩) 1 2] (h.freeze ++ L) = some (i64 (rdE a b), h.freeze ++ L)
  k22 : ∀ L, E1.call 30 h.length 22 [tx s] (h.freeze ++ L) = some (.tuple #[lV6 (h.freeze ++ L).length p.1, i64 (p.2.1 : Nat), i64 p.2.2], h.freeze ++ L ++ lB6 p.1)
  k23 : ∀ L, E1.call 30 h.length 23 [tx s] (h.freeze ++ L) = some (.tuple #[lV6 (h.freeze ++ L).length p.1, i64 (p.2.1 : Nat), i64 p.2.2], h.freeze ++ L ++ lB6 p.1)
  k24 : ∀ L b1 b2 n1 n2, Heap.get (h.freeze ++ L) b1 = some ⟨cS enc6 p.1, true⟩ → n1 = p.1.length → Heap.get (h.freeze ++ L) b2 = some ⟨cS enc6 p.1, true⟩ → n2 = p.1.length →
    E1.call 30 h.length 24 [.slice (some ⟨b1, 0, none⟩) n1 6, .slice (some ⟨b2, 0, none⟩) n2 6] (h.freeze ++ L) = some (.bool true, h.freeze ++ L)
  k24n : ∀ L, E1.call 30 h.length 24 [.slice none 0 0, .slice none 0 0] (h.freeze ++ L) = some (.bool true, h.freeze ++ L)
  k26 : ∀ L, E1.call 30 h.length 26 [v] (h.freeze ++ L) = some (.slice (some ⟨(h.freeze ++ L).length, 0, none⟩) l.length 6, h.freeze ++ L ++ [some ⟨cS enc6 l, true⟩])
  k25 : ∀ L b, Heap.get (h.freeze ++ L) b = some ⟨cS enc6 l, true⟩ → E1.call 30 h.length 25 [.slice (some ⟨b, 0, none⟩) l.length 6] (h.freeze ++ L) = some (prVU l, h.freeze ++ L)
  k27 : ∀ L, E1.call 30 h.length 27 [v] (h.freeze ++ L) = some (i64 (chkN l), h.freeze ++ L)
  back : rdE a b = 0 → r2 = (a, b, 0)
theorem K4.mk' {h : Heap} {v : Value} {l : List P6} {a b : Int} {s : List UInt8} (S : Sl6 h v l) (hl : l.length ≤ 100000) (ha : R64 a) (hb : R64 b) (hs : s.length < 100000) (e : H.Er h) :
    K4 h v l a b s (rowL [a, b]) (rdgV (whl 7) s) (rdgV (whl 7) (rowL [a, b])) (prsU (whl 10) s) := by
  have S' := Sl_freeze.2 S
  have tn : (rowL [a, b]).length < 100000 := by
    have := rowL_len [a, b] (by intro n hn; simp at hn; rcases hn with rfl | rfl <;> assumption)
    simp only [List.length_cons, List.length_nil] at this
    omega
  have pl := prs_len (whl 10) s
  refine ⟨fun L => up (c17 (d := 24) e.freeze.app hs), fun L => ?_, fun L => up (c19f (d := 26) ha hb), fun L => up (c20f (d := 26) ha hb), fun L => up (c17 (d := 24) e.freeze.app tn),
    fun L k rw g => up (c21 (d := 27) g), fun L => up (c22 (d := 23) e.freeze.app hs), fun L => ?_, fun L b1 b2 n1 n2 g1 e1 g2 e2 => ?_, fun L => ?_, fun L => up (c26 (d := 29) (S'.app L) hl),
    fun L b g => c25 (d := 29) g rfl, fun L => up (c27 (d := 25) (S'.app L)), fun z => rdg_back z⟩
  · rw [rdg_same]; exact up (c18r (d := 24) hs)
  · rw [prs_same]; exact up (c23 (d := 24) hs)
  · have := c24 (d := 29) (lim := h.length) (Sl_own (f := enc6) (es := 6) (fun _ => rfl) g1 e1) (Sl_own (f := enc6) (es := 6) (fun _ => rfl) g2 e2) pl
    rw [decide_eq_true rfl] at this
    exact up this
  · have := c24 (d := 29) (lim := h.length) (sl6_nil (h.freeze ++ L)) (sl6_nil (h.freeze ++ L)) (by simp)
    rw [decide_eq_true rfl] at this
    exact up this
/-- And what they give of a right list. -/
structure K5 (h : Heap) (v : Value) (l : List P6) (t : List UInt8) : Prop where
  k22 : ∀ L, E1.call 30 h.length 22 [tx t] (h.freeze ++ L) = some (.tuple #[lV6 (h.freeze ++ L).length l, i64 0, i64 0], h.freeze ++ L ++ lB6 l)
  k28 : ∀ L, E1.call 30 h.length 28 [v] (h.freeze ++ L) = some (tx t, h.freeze ++ L)
  k24 : ∀ L b1 n1, Heap.get (h.freeze ++ L) b1 = some ⟨cS enc6 l, true⟩ → n1 = l.length → E1.call 30 h.length 24 [.slice (some ⟨b1, 0, none⟩) n1 6, v] (h.freeze ++ L) = some (.bool true, h.freeze ++ L)
  k24n : l = [] → ∀ L, E1.call 30 h.length 24 [.slice none 0 0, v] (h.freeze ++ L) = some (.bool true, h.freeze ++ L)
theorem K5.mk' {h : Heap} {v : Value} {l : List P6} (S : Sl6 h v l) (e : H.Er h) (z : chkN l = 0) : K5 h v l (prU l l.length) := by
  have S' := Sl_freeze.2 S
  have l60 := chkN_le z
  refine ⟨fun L => ?_, fun L => up (c28 (d := 27) (S'.app L) (by omega) (fun i hi => chkN_R6 z hi)), fun L b1 n1 g e1 => ?_, fun l0 L => ?_⟩
  · have := c22 (d := 23) (lim := h.length) (s := prU l l.length) (e.freeze.app (L := L)) (prU_big z)
    rw [prs_back z] at this
    exact up this
  · have := c24 (d := 29) (lim := h.length) (Sl_own (f := enc6) (es := 6) (fun _ => rfl) g e1) (S'.app L) (by omega)
    rw [decide_eq_true rfl] at this
    exact up this
  · subst l0
    have := c24 (d := 29) (lim := h.length) (sl6_nil (h.freeze ++ L)) (S'.app L) (by simp)
    rw [decide_eq_true rfl] at this
    exact up this
theorem law4f {lim : Nat} {h : Heap} {v : Value} {l : List P6} {a b : Int} {s : List UInt8} (S : Sl6 h v l) (hl : l.length * 32 ≤ 140737488355328) (q0 : ¬ fewB l.length 6 = true)
    (aw : ∀ A, E.call 30 h.length 14 [] (h.freeze ++ [A]) = some (.bool true, h.freeze ++ [A])) :
    E1.call 31 lim 4 [v, c2 a b, tx s] h = some (.bool true, h) := by
  have f4 : E1.fn 4 = some ef4 := fn4
  refine call1 f4 rfl (by simp [ef4]) ?_
  have aw := fun A => up (aw A)
  have S' := Sl_freeze.2 S
  have tl := tsL_len l
  have k16 := fun (L : Heap) => up (c16 (d := 29) (lim := h.length) (S'.app L) hl)
  have nz4 : Sl4 h (.slice none 0 0) [] := ⟨rfl, rfl, fun q => absurd rfl q, .inl rfl, fun k hk => absurd hk (Nat.not_lt_zero k)⟩
  have so4 := fun (L : Heap) (b' n' : Nat) (hg : Heap.get (h.freeze ++ L) b' = some ⟨cS enc4 (tsL l), true⟩) (hn : n' = (tsL l).length) => Sl_own (f := enc4) (es := 4) (fun _ => rfl) hg hn
  have k15 := fun (L : Heap) (b' n' : Nat) (hg : Heap.get (h.freeze ++ L) b' = some ⟨cS enc4 (tsL l), true⟩) (hn : n' = (tsL l).length) => up (c15 (d := 29) (lim := h.length) (m := 6) (so4 L b' n' hg hn))
  have k15n := fun (L : Heap) => up (c15 (d := 29) (lim := h.length) (m := 6) ((Sl_freeze.2 nz4).app L))
  have f0' : fewB (((0 : Nat)) : Int) 6 = true := by decide
  simp only [List.length_nil, f0'] at k15n
  rw [tl] at k15
  unfold tV tB at k16
  by_cases l0 : l = []
  · subst l0; exact absurd f0' q0
  · have te : ¬ tsL l = [] := fun y => by rw [y] at tl; exact l0 (List.eq_nil_of_length_eq_zero tl.symm)
    simp only [if_neg te, tl] at k16
    simp [ef4, aw, k16, k15, tl, q0]
theorem law4d {lim : Nat} {h : Heap} {v : Value} {l : List P6} {a b : Int} {s : List UInt8} (S : Sl6 h v l) (hl : l.length * 32 ≤ 140737488355328) (hg : 60005 < s.length ∨ 300 < s.length ∧ s.length ≤ 60000)
    (aw : ∀ A, E.call 30 h.length 14 [] (h.freeze ++ [A]) = some (.bool true, h.freeze ++ [A])) :
    E1.call 31 lim 4 [v, c2 a b, tx s] h = some (.bool true, h) := by
  have f4 : E1.fn 4 = some ef4 := fn4
  refine call1 f4 rfl (by simp [ef4]) ?_
  have aw := fun A => up (aw A)
  have S' := Sl_freeze.2 S
  have tl := tsL_len l
  have k16 := fun (L : Heap) => up (c16 (d := 29) (lim := h.length) (S'.app L) hl)
  have nz4 : Sl4 h (.slice none 0 0) [] := ⟨rfl, rfl, fun q => absurd rfl q, .inl rfl, fun k hk => absurd hk (Nat.not_lt_zero k)⟩
  have so4 := fun (L : Heap) (b' n' : Nat) (hg : Heap.get (h.freeze ++ L) b' = some ⟨cS enc4 (tsL l), true⟩) (hn : n' = (tsL l).length) => Sl_own (f := enc4) (es := 4) (fun _ => rfl) hg hn
  have k15 := fun (L : Heap) (b' n' : Nat) (hg : Heap.get (h.freeze ++ L) b' = some ⟨cS enc4 (tsL l), true⟩) (hn : n' = (tsL l).length) => up (c15 (d := 29) (lim := h.length) (m := 6) (so4 L b' n' hg hn))
  have k15n := fun (L : Heap) => up (c15 (d := 29) (lim := h.length) (m := 6) ((Sl_freeze.2 nz4).app L))
  have f0' : fewB (((0 : Nat)) : Int) 6 = true := by decide
  simp only [List.length_nil, f0'] at k15n
  rw [tl] at k15
  unfold tV tB at k16
  -- lengths of the text
  rcases hg with g3 | g
  · have g3' : (60005 : Int) < s.length := by omega
    have g1' : (300 : Int) < s.length := by omega
    have g2' : ¬ (s.length : Int) ≤ 60000 := by omega
    have g2n : (60000 : Int) < s.length := by omega
    by_cases l0 : l = []
    · have te : tsL l = [] := by rw [l0]; rfl
      simp only [te, if_true, List.append_nil] at k16
      simp [ef4, aw, k16, k15n, g1', g2', g3', g2n]
    · have te : ¬ tsL l = [] := fun y => by rw [y] at tl; exact l0 (List.eq_nil_of_length_eq_zero tl.symm)
      simp only [if_neg te, tl] at k16
      by_cases q0 : fewB l.length 6 = true
      · simp [ef4, aw, k16, k15, tl, q0, g1', g2', g3', g2n]
      · simp [ef4, aw, k16, k15, tl, q0]
  · obtain ⟨g1, g2⟩ := g
    have g1' : (300 : Int) < s.length := by omega
    have g2' : (s.length : Int) ≤ 60000 := by omega
    by_cases l0 : l = []
    · have te : tsL l = [] := by rw [l0]; rfl
      simp only [te, if_true, List.append_nil] at k16
      simp [ef4, aw, k16, k15n, g1', g2']
    · have te : ¬ tsL l = [] := fun y => by rw [y] at tl; exact l0 (List.eq_nil_of_length_eq_zero tl.symm)
      simp only [if_neg te, tl] at k16
      by_cases q0 : fewB l.length 6 = true
      · simp [ef4, aw, k16, k15, tl, q0, g1', g2']
      · simp [ef4, aw, k16, k15, tl, q0]
end H.U
end Go.Abs
