/- Chapter 2: classes: the law ScaleClasses. -/
import Derived.Test.YtodofkolnmoliaaAbsVQ1
import Derived.Test.YtodofkolnmoliaaAbsVXM
set_option linter.unusedSimpArgs false
set_option linter.unusedVariables false
namespace Go.Abs
namespace V
set_option maxRecDepth 100000
set_option maxHeartbeats 0
theorem c40 {d lim : Nat} {h : Heap} {v : Value} {l : List Int} {a b : Int} (s : SlI' h v l) (hl : l.length ≤ 1000) : E.call (d + 4) lim 40 [v, rgV a b] h = some (.tuple #[i64 (classN l a b), i64 (classE l a b)], h) := by
  have r := s.rules2
  have kW := fun lim hh a b c => c48 (d := d + 2) (lim := lim) (h := hh) (a := a) (b := b) (c := c)
  refine call1 fn40 rfl (by simp [ef40]) ?_
  unfold classN
  by_cases h20 : 20 < l.length
  · have i20 : (20 : Int) < l.length := by omega
    have e : classE l a b = 8 := by simp [classE, h20]
    rw [e]
    simp [ef40, r, h20, i20, Int.not_le.2 i20, Nat.not_le.2 h20]
  have i20 : ¬ (20 : Int) < l.length := by omega
  have e0 : classE l a b = if chkML l 0 = 0 then (if b < a ∨ within a 0 1000000000000000 = false ∨ within b 0 1000000000000000 = false then 2 else if belowN l a ≠ belowN l b then 12 else 0) else chkML l 0 := by simp [classE, h20]
  generalize hE : classE l a b = E0 at *
  have wa : 0 ≤ a → a ≤ 1000000000000000 → IntKind.wrap .i64 (a + 1) = a + 1 := fun h1 h2 => wrap_eq (by omega) (by omega)
  have wb : 0 ≤ b → b ≤ 1000000000000000 → IntKind.wrap .i64 (b + 1) = b + 1 := fun h1 h2 => wrap_eq (by omega) (by omega)
  rcases Nat.eq_zero_or_pos l.length with hz | hz
  · have el : l = [] := List.eq_nil_of_length_eq_zero hz
    subst el
    have ec : chkML [] 0 = 0 := by rw [chkML_ge (by simp)]
    rw [ec] at e0
    simp only [if_true] at e0
    have kA := fun lim L => c62 (d := d) (lim := lim) (x := a) (Sl_freeze.2 ((Sl_freeze.2 s).app L)) hl (asc_of ec)
    have kB := fun lim L => c62 (d := d) (lim := lim) (x := b) ((Sl_freeze.2 s).app L) hl (asc_of ec)
    rcases s.low with rfl | ⟨bv, o', m', t', rfl, hbv⟩
    · simp [ef40]
      rw [wpC_unroll, wpI_step (by simp [E_fuel'])]
      by_cases q1 : b < a
      · rw [if_pos (.inl q1)] at e0
        subst e0
        simp [St.tidy, q1, Int.not_le.2 q1]
      rcases q2 : within a 0 1000000000000000 with _ | _
      · rw [if_pos (.inr (.inl q2))] at e0
        subst e0
        simp [St.tidy, q1, Int.not_lt.1 q1, kW, q2]
      rcases q3 : within b 0 1000000000000000 with _ | _
      · rw [if_pos (.inr (.inr q3))] at e0
        subst e0
        simp [St.tidy, q1, Int.not_lt.1 q1, kW, q2, q3]
      rw [if_neg (by rintro (q | q | q); exact q1 q; rw [q2] at q; cases q; rw [q3] at q; cases q)] at e0
      have ab : 0 ≤ a ∧ a ≤ 1000000000000000 := by simpa [within] using q2
      have bb : 0 ≤ b ∧ b ≤ 1000000000000000 := by simpa [within] using q3
      have wa' := wa ab.1 ab.2
      have wb' := wb bb.1 bb.2
      by_cases q4 : belowN [] a = belowN [] b
      · rw [if_neg (by simpa using q4)] at e0
        subst e0
        rw [← q4] at kB
        simp [St.tidy, q1, Int.not_lt.1 q1, kW, q2, q3, wa', wb', kA, kB]
      · rw [if_pos q4] at e0
        subst e0
        have q4i : ¬ (belowN [] a : Int) = belowN [] b := by omega
        simp [St.tidy, q1, Int.not_lt.1 q1, kW, q2, q3, wa', wb', kA, kB, q4, q4i]
    · obtain rfl : m' = 0 := by
        have := s.len
        simpa using this
      simp [ef40]
      rw [wpC_unroll, wpI_step (by simp [E_fuel'])]
      by_cases q1 : b < a
      · rw [if_pos (.inl q1)] at e0
        subst e0
        simp [St.tidy, hbv, q1, Int.not_le.2 q1]
      rcases q2 : within a 0 1000000000000000 with _ | _
      · rw [if_pos (.inr (.inl q2))] at e0
        subst e0
        simp [St.tidy, hbv, q1, Int.not_lt.1 q1, kW, q2]
      rcases q3 : within b 0 1000000000000000 with _ | _
      · rw [if_pos (.inr (.inr q3))] at e0
        subst e0
        simp [St.tidy, hbv, q1, Int.not_lt.1 q1, kW, q2, q3]
      rw [if_neg (by rintro (q | q | q); exact q1 q; rw [q2] at q; cases q; rw [q3] at q; cases q)] at e0
      have ab : 0 ≤ a ∧ a ≤ 1000000000000000 := by simpa [within] using q2
      have bb : 0 ≤ b ∧ b ≤ 1000000000000000 := by simpa [within] using q3
      have wa' := wa ab.1 ab.2
      have wb' := wb bb.1 bb.2
      by_cases q4 : belowN [] a = belowN [] b
      · rw [if_neg (by simpa using q4)] at e0
        subst e0
        rw [← q4] at kB
        simp [St.tidy, hbv, q1, Int.not_lt.1 q1, kW, q2, q3, wa', wb', kA, kB]
      · rw [if_pos q4] at e0
        subst e0
        have q4i : ¬ (belowN [] a : Int) = belowN [] b := by omega
        simp [St.tidy, hbv, q1, Int.not_lt.1 q1, kW, q2, q3, wa', wb', kA, kB, q4, q4i]
  obtain ⟨bv, o', rfl⟩ : ∃ bv o', v = .slice (some ⟨bv, o', none⟩) l.length 1 := ⟨_, _, s.addr (by omega)⟩
  have hbv := s.lt (by omega)
  simp only [slB_some, slO_some] at r hbv
  simp [ef40, r, h20, i20, Int.not_lt.1 i20, Nat.not_lt.1 h20]
  refine wpC_loop (fun q st => ∃ i, q = l.length - i ∧ i ≤ l.length ∧ chkML l i = chkML l 0 ∧ st = ⟨[(0, .slice (some ⟨bv, o', none⟩) l.length 1), (3, .pointer (some ⟨h.length, 0, none⟩)), (13, .slice (some ⟨bv, o', none⟩) l.length 1), (14, i64 (l.length : Int)), (15, i64 (i : Nat))], h.freeze ++ [some ⟨[i64 a, i64 b], true⟩]⟩) l.length (by show l.length < 2 ^ 64; omega) ?_ ?_
  · simp [St.tidy, hbv]
    exact ⟨0, by omega, by omega, rfl, rfl⟩
  · rintro q hq _ ⟨i, rfl, hi, hc, rfl⟩
    by_cases hlt : i < l.length
    · have w1' := w1 (i := i) (by omega)
      simp only [W] at w1'
      have hlti : (i : Int) < l.length := by omega
      have c0 : ∀ hh, (cI l)[i]'hh = i64 (gx l i) := fun hh => by simp [cI, gx, List.getD_eq_getElem?_getD, List.getElem?_eq_getElem hlt]
      rw [chkML_lt hlt] at hc
      unfold mErr at hc
      generalize hg : gx l i = g at *
      rcases z1 : within g 1 1000000000000000 with _ | _
      · rw [z1] at hc
        simp at hc
        rw [← hc] at e0
        simp at e0
        subst e0
        simp [hlt, Nat.not_le.2 hlt, hlti, r, c0, kW, z1]
      · rw [z1] at hc
        rcases Nat.eq_zero_or_pos i with zz | zz
        · subst zz
          simp at hc
          have pp := s.cell 0 (by omega)
          simp only [slB_some, slO_some, Nat.add_zero] at pp
          have l0 : 0 < l.length := by omega
          rw [List.getElem?_eq_getElem (by simpa using l0), c0] at pp
          simp [l0, Nat.not_le.2 l0, hlt, hlti, r, pp, kW, z1, St.tidy, hbv]
          first
            | exact ⟨l.length - 1, by omega, 1, by omega, by omega, hc, by omega⟩
            | (refine ⟨fun _ => ⟨l.length - 1, by omega, 1, by omega, by omega, hc, by omega⟩, fun q => absurd q (by omega)⟩)
        · have z0 : i ≠ 0 := by omega
          have zi : (0 : Int) < i := by omega
          have wi : IntKind.wrap .i64 ((i : Int) - 1) = ((i - 1 : Nat) : Int) := by rw [wrap_eq (by omega) (by omega)]; omega
          have c1 : ∀ hh, (cI l)[i - 1]'hh = i64 (gx l (i - 1)) := fun hh => by simp [cI, gx, List.getD_eq_getElem?_getD, List.getElem?_eq_getElem (show i - 1 < l.length by omega)]
          have ip : ((i - 1 : Nat) : Int) < l.length := by omega
          have ip2 : i - 1 < l.length := by omega
          generalize hg' : gx l (i - 1) = g' at *
          by_cases z2 : g ≤ g'
          · simp [zz, z2] at hc
            rw [← hc] at e0
            simp at e0
            subst e0
            generalize i - 1 = ip' at *
            simp [hlt, Nat.not_le.2 hlt, hlti, r, c0, c1, kW, z1, z0, zz, zi, wi, ip, ip2, z2]
          · simp [zz, z2] at hc
            generalize i - 1 = ip' at *
            simp [hlt, Nat.not_le.2 hlt, hlti, r, c0, c1, kW, z1, z0, zz, zi, wi, ip, ip2, z2, Int.not_le.1 z2, w1', St.tidy, hbv]
            exact ⟨l.length - (i + 1), by omega, i + 1, by omega, by omega, hc, by omega⟩
    · obtain rfl : i = l.length := by omega
      rw [chkML_ge (by omega)] at hc
      rw [← hc] at e0
      simp only [if_true] at e0
      have kA := fun lim L => c62 (d := d) (lim := lim) (x := a) (Sl_freeze.2 ((Sl_freeze.2 s).app L)) hl (asc_of hc.symm)
      have kB := fun lim L => c62 (d := d) (lim := lim) (x := b) ((Sl_freeze.2 s).app L) hl (asc_of hc.symm)
      by_cases q1 : b < a
      · rw [if_pos (.inl q1)] at e0
        subst e0
        simp [r, q1, Int.not_le.2 q1]
      rcases q2 : within a 0 1000000000000000 with _ | _
      · rw [if_pos (.inr (.inl q2))] at e0
        subst e0
        simp [r, q1, Int.not_lt.1 q1, kW, q2]
      rcases q3 : within b 0 1000000000000000 with _ | _
      · rw [if_pos (.inr (.inr q3))] at e0
        subst e0
        simp [r, q1, Int.not_lt.1 q1, kW, q2, q3]
      rw [if_neg (by rintro (q | q | q); exact q1 q; rw [q2] at q; cases q; rw [q3] at q; cases q)] at e0
      have ab : 0 ≤ a ∧ a ≤ 1000000000000000 := by simpa [within] using q2
      have bb : 0 ≤ b ∧ b ≤ 1000000000000000 := by simpa [within] using q3
      have wa' := wa ab.1 ab.2
      have wb' := wb bb.1 bb.2
      by_cases q4 : belowN l a = belowN l b
      · rw [if_neg (by simpa using q4)] at e0
        subst e0
        rw [← q4] at kB
        simp [r, q1, Int.not_lt.1 q1, kW, q2, q3, wa', wb', kA, kB]
      · rw [if_pos q4] at e0
        subst e0
        have q4i : ¬ (belowN l a : Int) = belowN l b := by omega
        simp [r, q1, Int.not_lt.1 q1, kW, q2, q3, wa', wb', kA, kB, q4, q4i]
theorem c41 {d lim : Nat} {h : Heap} {v : Value} {l : List Int} {a b : Int} (s : SlI' h v l) (hl : l.length ≤ 1000) : E.call (d + 2) lim 41 [v, rgV a b] h = some (.tuple #[i64 (classN l a b), i64 (classE l a b)], h) := by
  have r := s.rules2
  have kW := fun lim hh a b c => c13 (d := d + 0) (lim := lim) (h := hh) (a := a) (b := b) (c := c)
  refine call1 fn41 rfl (by simp [ef41]) ?_
  unfold classN
  by_cases h20 : 20 < l.length
  · have i20 : (20 : Int) < l.length := by omega
    have e : classE l a b = 8 := by simp [classE, h20]
    rw [e]
    simp [ef41, r, h20, i20, Int.not_le.2 i20, Nat.not_le.2 h20]
  have i20 : ¬ (20 : Int) < l.length := by omega
  have e0 : classE l a b = if chkML l 0 = 0 then (if b < a ∨ within a 0 1000000000000000 = false ∨ within b 0 1000000000000000 = false then 2 else if belowN l a ≠ belowN l b then 12 else 0) else chkML l 0 := by simp [classE, h20]
  generalize hE : classE l a b = E0 at *
  have wa : 0 ≤ a → a ≤ 1000000000000000 → IntKind.wrap .i64 (a + 1) = a + 1 := fun h1 h2 => wrap_eq (by omega) (by omega)
  have wb : 0 ≤ b → b ≤ 1000000000000000 → IntKind.wrap .i64 (b + 1) = b + 1 := fun h1 h2 => wrap_eq (by omega) (by omega)
  rcases Nat.eq_zero_or_pos l.length with hz | hz
  · have el : l = [] := List.eq_nil_of_length_eq_zero hz
    subst el
    have ec : chkML [] 0 = 0 := by rw [chkML_ge (by simp)]
    rw [ec] at e0
    simp only [if_true] at e0
    have kA := fun lim L => c63 (d := d) (lim := lim) (n := a) (Sl_freeze.2 ((Sl_freeze.2 s).app L)) hl
    have kA2 := fun lim L => c63 (d := d) (lim := lim) (n := a) ((Sl_freeze.2 s).app L) hl
    have kB := fun lim L => c63 (d := d) (lim := lim) (n := b) ((Sl_freeze.2 s).app L) hl
    rcases s.low with rfl | ⟨bv, o', m', t', rfl, hbv⟩
    · simp [ef41]
      rw [wpC_unroll, wpI_step (by simp [E_fuel'])]
      by_cases q1 : b < a
      · rw [if_pos (.inl q1)] at e0
        subst e0
        simp [St.tidy, q1, Int.not_le.2 q1]
      rcases q2 : within a 0 1000000000000000 with _ | _
      · rw [if_pos (.inr (.inl q2))] at e0
        subst e0
        simp [St.tidy, q1, Int.not_lt.1 q1, kW, q2]
      rcases q3 : within b 0 1000000000000000 with _ | _
      · rw [if_pos (.inr (.inr q3))] at e0
        subst e0
        simp [St.tidy, q1, Int.not_lt.1 q1, kW, q2, q3]
      rw [if_neg (by rintro (q | q | q); exact q1 q; rw [q2] at q; cases q; rw [q3] at q; cases q)] at e0
      have ab : 0 ≤ a ∧ a ≤ 1000000000000000 := by simpa [within] using q2
      have bb : 0 ≤ b ∧ b ≤ 1000000000000000 := by simpa [within] using q3
      have wa' := wa ab.1 ab.2
      have wb' := wb bb.1 bb.2
      by_cases q4 : belowN [] a = belowN [] b
      · rw [if_neg (by simpa using q4)] at e0
        subst e0
        rw [← q4] at kB
        simp [St.tidy, q1, Int.not_lt.1 q1, kW, q2, q3, wa', wb', kA, kA2, kB]
      · rw [if_pos q4] at e0
        subst e0
        have q4i : ¬ (belowN [] a : Int) = belowN [] b := by omega
        simp [St.tidy, q1, Int.not_lt.1 q1, kW, q2, q3, wa', wb', kA, kA2, kB, q4, q4i]
    · obtain rfl : m' = 0 := by
        have := s.len
        simpa using this
      simp [ef41]
      rw [wpC_unroll, wpI_step (by simp [E_fuel'])]
      by_cases q1 : b < a
      · rw [if_pos (.inl q1)] at e0
        subst e0
        simp [St.tidy, hbv, q1, Int.not_le.2 q1]
      rcases q2 : within a 0 1000000000000000 with _ | _
      · rw [if_pos (.inr (.inl q2))] at e0
        subst e0
        simp [St.tidy, hbv, q1, Int.not_lt.1 q1, kW, q2]
      rcases q3 : within b 0 1000000000000000 with _ | _
      · rw [if_pos (.inr (.inr q3))] at e0
        subst e0
        simp [St.tidy, hbv, q1, Int.not_lt.1 q1, kW, q2, q3]
      rw [if_neg (by rintro (q | q | q); exact q1 q; rw [q2] at q; cases q; rw [q3] at q; cases q)] at e0
      have ab : 0 ≤ a ∧ a ≤ 1000000000000000 := by simpa [within] using q2
      have bb : 0 ≤ b ∧ b ≤ 1000000000000000 := by simpa [within] using q3
      have wa' := wa ab.1 ab.2
      have wb' := wb bb.1 bb.2
      by_cases q4 : belowN [] a = belowN [] b
      · rw [if_neg (by simpa using q4)] at e0
        subst e0
        rw [← q4] at kB
        simp [St.tidy, hbv, q1, Int.not_lt.1 q1, kW, q2, q3, wa', wb', kA, kA2, kB]
      · rw [if_pos q4] at e0
        subst e0
        have q4i : ¬ (belowN [] a : Int) = belowN [] b := by omega
        simp [St.tidy, hbv, q1, Int.not_lt.1 q1, kW, q2, q3, wa', wb', kA, kA2, kB, q4, q4i]
  obtain ⟨bv, o', rfl⟩ : ∃ bv o', v = .slice (some ⟨bv, o', none⟩) l.length 1 := ⟨_, _, s.addr (by omega)⟩
  have hbv := s.lt (by omega)
  simp only [slB_some, slO_some] at r hbv
  simp [ef41, r, h20, i20, Int.not_lt.1 i20, Nat.not_lt.1 h20]
  refine wpC_loop (fun q st => ∃ i, q = l.length - i ∧ i ≤ l.length ∧ chkML l i = chkML l 0 ∧ st = ⟨[(0, .slice (some ⟨bv, o', none⟩) l.length 1), (3, .pointer (some ⟨h.length, 0, none⟩)), (6, i64 (i : Nat))], h.freeze ++ [some ⟨[i64 a, i64 b], true⟩]⟩) l.length (by show l.length < 2 ^ 64; omega) ?_ ?_
  · simp [St.tidy, hbv]
    exact ⟨0, by omega, by omega, rfl, rfl⟩
  · rintro q hq _ ⟨i, rfl, hi, hc, rfl⟩
    by_cases hlt : i < l.length
    · have w1' := w1 (i := i) (by omega)
      simp only [W] at w1'
      have hlti : (i : Int) < l.length := by omega
      have c0 : ∀ hh, (cI l)[i]'hh = i64 (gx l i) := fun hh => by simp [cI, gx, List.getD_eq_getElem?_getD, List.getElem?_eq_getElem hlt]
      rw [chkML_lt hlt] at hc
      unfold mErr at hc
      generalize hg : gx l i = g at *
      rcases z1 : within g 1 1000000000000000 with _ | _
      · rw [z1] at hc
        simp at hc
        rw [← hc] at e0
        simp at e0
        subst e0
        simp [hlt, Nat.not_le.2 hlt, hlti, r, c0, kW, z1]
      · rw [z1] at hc
        rcases Nat.eq_zero_or_pos i with zz | zz
        · subst zz
          simp at hc
          have pp := s.cell 0 (by omega)
          simp only [slB_some, slO_some, Nat.add_zero] at pp
          have l0 : 0 < l.length := by omega
          rw [List.getElem?_eq_getElem (by simpa using l0), c0] at pp
          have ne : l ≠ [] := fun q => by rw [q] at l0; simp at l0
          simp [l0, ne, Nat.not_le.2 l0, hlt, hlti, r, pp, kW, z1, St.tidy, hbv]
          first
            | exact ⟨l.length - 1, by omega, 1, by omega, by omega, hc, by omega⟩
            | (refine ⟨fun _ => ⟨l.length - 1, by omega, 1, by omega, by omega, hc, by omega⟩, fun q => absurd q (by omega)⟩)
        · have z0 : i ≠ 0 := by omega
          have zi : (0 : Int) < i := by omega
          have wi : IntKind.wrap .i64 ((i : Int) - 1) = ((i - 1 : Nat) : Int) := by rw [wrap_eq (by omega) (by omega)]; omega
          have c1 : ∀ hh, (cI l)[i - 1]'hh = i64 (gx l (i - 1)) := fun hh => by simp [cI, gx, List.getD_eq_getElem?_getD, List.getElem?_eq_getElem (show i - 1 < l.length by omega)]
          have ip : ((i - 1 : Nat) : Int) < l.length := by omega
          have ip2 : i - 1 < l.length := by omega
          generalize hg' : gx l (i - 1) = g' at *
          by_cases z2 : g ≤ g'
          · simp [zz, z2] at hc
            rw [← hc] at e0
            simp at e0
            subst e0
            generalize i - 1 = ip' at *
            simp [hlt, Nat.not_le.2 hlt, hlti, r, c0, c1, kW, z1, z0, zz, zi, wi, ip, ip2, z2]
          · simp [zz, z2] at hc
            generalize i - 1 = ip' at *
            simp [hlt, Nat.not_le.2 hlt, hlti, r, c0, c1, kW, z1, z0, zz, zi, wi, ip, ip2, z2, Int.not_le.1 z2, w1', St.tidy, hbv]
            exact ⟨l.length - (i + 1), by omega, i + 1, by omega, by omega, hc, by omega⟩
    · obtain rfl : i = l.length := by omega
      rw [chkML_ge (by omega)] at hc
      rw [← hc] at e0
      simp only [if_true] at e0
      have kA := fun lim L => c63 (d := d) (lim := lim) (n := a) (Sl_freeze.2 ((Sl_freeze.2 s).app L)) hl
      have kA2 := fun lim L => c63 (d := d) (lim := lim) (n := a) ((Sl_freeze.2 s).app L) hl
      have kB := fun lim L => c63 (d := d) (lim := lim) (n := b) ((Sl_freeze.2 s).app L) hl
      by_cases q1 : b < a
      · rw [if_pos (.inl q1)] at e0
        subst e0
        simp [r, q1, Int.not_le.2 q1]
      rcases q2 : within a 0 1000000000000000 with _ | _
      · rw [if_pos (.inr (.inl q2))] at e0
        subst e0
        simp [r, q1, Int.not_lt.1 q1, kW, q2]
      rcases q3 : within b 0 1000000000000000 with _ | _
      · rw [if_pos (.inr (.inr q3))] at e0
        subst e0
        simp [r, q1, Int.not_lt.1 q1, kW, q2, q3]
      rw [if_neg (by rintro (q | q | q); exact q1 q; rw [q2] at q; cases q; rw [q3] at q; cases q)] at e0
      have ab : 0 ≤ a ∧ a ≤ 1000000000000000 := by simpa [within] using q2
      have bb : 0 ≤ b ∧ b ≤ 1000000000000000 := by simpa [within] using q3
      have wa' := wa ab.1 ab.2
      have wb' := wb bb.1 bb.2
      by_cases q4 : belowN l a = belowN l b
      · rw [if_neg (by simpa using q4)] at e0
        subst e0
        rw [← q4] at kB
        simp [r, q1, Int.not_lt.1 q1, kW, q2, q3, wa', wb', kA, kA2, kB]
      · rw [if_pos q4] at e0
        subst e0
        have q4i : ¬ (belowN l a : Int) = belowN l b := by omega
        simp [r, q1, Int.not_lt.1 q1, kW, q2, q3, wa', wb', kA, kA2, kB, q4, q4i]
theorem c8 {d lim : Nat} {h : Heap} {v : Value} {l : List Int} {a b : Int} (s : SlI' h v l) : E.call (d + 9) lim 8 [v, rgV a b] h = some (.bool true, h) := by
  have r := s.rules2
  refine call1 fn8 rfl (by simp [ef8]) ?_
  by_cases h25 : 25 < l.length
  · have i1 : (25 : Int) < l.length := by omega
    simp [ef8, c9, r, h25, i1, Int.not_le.2 i1, Nat.not_le.2 h25]
  have i1 : ¬ (25 : Int) < l.length := by omega
  have hl : l.length ≤ 1000 := by omega
  have k39 := fun lim L => c39g (d := d + 7) (lim := lim) (Sl_freeze.2 ((Sl_freeze.2 s).app L)) (by omega)
  have k40 := fun lim => c40 (d := d + 4) (lim := lim) (a := a) (b := b) (SlI'_own (h := h.freeze ++ [some ⟨[i64 a, i64 b], true⟩, some ⟨cI l, true⟩]) (b := h.length + 1) (by rw [hget_base (by simp)]; rfl) rfl) hl
  have k41 := fun lim L => c41 (d := d + 6) (lim := lim) (a := a) (b := b) ((Sl_freeze.2 s).app L) hl
  simp [ef8, c9, r, h25, i1, Int.not_lt.1 i1, Nat.not_lt.1 h25, k39, k40, k41]
end V
end Go.Abs
