/- Chapter 7: loose pins: the reference, the law. -/
import Derived.Test.YtfbelnhibipndaaAbsUC2
set_option linter.unusedSimpArgs false
set_option linter.unusedVariables false
namespace Go.Abs
namespace U
set_option maxRecDepth 100000
set_option maxHeartbeats 0
/-- The day is late enough. -/
def lateB (a b : P2) (f D : Int) : Prop := a.2 * (b.1 - a.1) + (b.2 - a.2) * (D - a.1) ≤ f * (b.1 - a.1)
instance (a b : P2) (f D : Int) : Decidable (lateB a b f D) := by unfold lateB; infer_instance
theorem late_iff {a b : P2} {f x : Int} : lateB a b f (b.1 + x) ↔ (b.2 - f) * (b.1 - a.1) ≤ (a.2 - b.2) * x := by
  unfold lateB
  have : a.2 * (b.1 - a.1) + (b.2 - a.2) * (b.1 + x - a.1) - f * (b.1 - a.1) = (b.2 - f) * (b.1 - a.1) - (a.2 - b.2) * x := by grind
  omega
/-- What the search finds. -/
theorem loose_spec {a b : P2} {f : Int} (hL : a.1 < b.1) (hb : b.1 ≤ 100000) (ha : 0 ≤ a.1) : ∀ r, looseD a b f = r →
    (r.2 = 0 ∧ b.1 ≤ r.1 ∧ r.1 ≤ 100000 ∧ lateB a b f r.1 ∧ ∀ D, b.1 ≤ D → D < r.1 → ¬ lateB a b f D) ∨ (r = (0, 12) ∧ ∀ D, b.1 ≤ D → D ≤ 100000 → ¬ lateB a b f D) := by
  intro r hr
  unfold looseD at hr
  have hLp : 0 < b.1 - a.1 := by omega
  split at hr
  · rename_i q
    subst hr
    refine .inl ⟨rfl, by simp, hb, ?_, fun D h1 h2 => by simp only at h2; omega⟩
    have := late_iff (a := a) (b := b) (f := f) (x := 0)
    rw [Int.add_zero, Int.mul_zero] at this
    rw [this]
    exact Int.mul_nonpos_of_nonpos_of_nonneg (by omega) (by omega)
  · rename_i q
    have hpos : 0 < (b.2 - f) * (b.1 - a.1) := Int.mul_pos (by omega) hLp
    split at hr
    · rename_i q2
      subst hr
      refine .inr ⟨rfl, fun D h1 h2 h3 => ?_⟩
      have := (late_iff (a := a) (b := b) (f := f) (x := D - b.1)).1 (by rw [show b.1 + (D - b.1) = D by omega]; exact h3)
      have h4 : (a.2 - b.2) * (D - b.1) ≤ 0 := Int.mul_nonpos_of_nonpos_of_nonneg (by omega) (by omega)
      omega
    · rename_i q2
      have hfall : 0 < a.2 - b.2 := by omega
      have hli := fun x => late_iff (a := a) (b := b) (f := f) (x := x)
      generalize (b.2 - f) * (b.1 - a.1) = M at *
      generalize a.2 - b.2 = F at *
      have e := Int.mul_ediv_add_emod (M + F - 1) F
      have r0 := Int.emod_nonneg (M + F - 1) (Int.ne_of_gt hfall)
      have r1 := Int.emod_lt_of_pos (M + F - 1) hfall
      have nn : 0 ≤ (M + F - 1) / F := Int.ediv_nonneg (by omega) (by omega)
      generalize (M + F - 1) / F = Q at *
      generalize (M + F - 1) % F = s at *
      have yes : lateB a b f (b.1 + Q) := by
        rw [hli]; omega
      have no : ∀ D, b.1 ≤ D → D < b.1 + Q → ¬ lateB a b f D := by
        intro D h1 h2 h3
        have := (hli (D - b.1)).1 (by rw [show b.1 + (D - b.1) = D by omega]; exact h3)
        have h4 : F * (D - b.1) ≤ F * (Q - 1) := Int.mul_le_mul_of_nonneg_left (by omega) (by omega)
        have h5 : F * (Q - 1) = F * Q - F := by rw [Int.mul_sub, Int.mul_one]
        omega
      split at hr
      · rename_i q3
        subst hr
        rw [within_iff'] at q3
        exact .inl ⟨rfl, by simp only; omega, q3.2, yes, no⟩
      · rename_i q3
        subst hr
        rw [within_iff'] at q3
        exact .inr ⟨rfl, fun D h1 h2 => no D h1 (by omega)⟩
theorem c51 {d lim : Nat} {h : Heap} {v : Value} {l : List P2} {f : Int} (s : Sl2 h v l) : E.call (d + 4) lim 51 [v, i64 f] h = some (prV (looseV l f), h) := by
  have r := s.rules2
  have k49 := fun lim => c49 (d := d) (lim := lim) (h := h.freeze) (v := v) (l := l) (Sl_freeze.2 s)
  refine call1 fn51 rfl (by simp [ef51]) ?_
  unfold looseV
  by_cases q0 : chkT l = 0
  case neg => simp [ef51, k49, q0]
  by_cases q1 : within f 0 100000 = true
  case neg => simp [ef51, k49, q0, c30, q1]
  have O := TOk.of q0
  have hl := O.len
  by_cases q2 : l.length < 2
  · have q2' : (l.length : Int) < 2 := by omega
    simp [ef51, k49, q0, c30, q1, r, q2, q2', Int.not_le.2 q2', Nat.not_le.2 q2]
  have q2' : ¬ (l.length : Int) < 2 := by omega
  have l0 : 0 < l.length := by omega
  have hb := s.lt (by omega)
  have hne : ¬ h.length = slB v := by omega
  have lm : IntKind.wrap .i64 ((l.length : Int) - 1) = ((l.length - 1 : Nat) : Int) := by rw [wrap_eq (by omega) (by omega)]; omega
  have p0 : ((cS enc2 l).take 2) = [i64 (at2 l 0).1, i64 (at2 l 0).2] := by have := c2_part (l := l) (i := 0) l0; simpa using this
  have s0 : slAt 2 v (i64 0) = some (.pointer (some ⟨slB v, slO v, none⟩)) := by have := s.at (k := .i64) (i := 0) (by omega) (by omega); simpa using this
  have pp : h.part (slB v) (slO v) 2 = some (.agg #[i64 (at2 l 0).1, i64 (at2 l 0).2]) := by have := s.part (k := 0) (m := 2) (by omega) (by omega); simpa [p0] using this
  have pl := c2_part (l := l) (i := l.length - 1) (by omega)
  have kl : (l.length - 1) * 2 + 2 ≤ l.length * 2 := by omega
  have il : ((l.length - 1 : Nat) : Int) < l.length := by omega
  have da := O.day 0 l0
  have db := O.day (l.length - 1) (by omega)
  have fa := O.force 0 l0
  have fb := O.force (l.length - 1) (by omega)
  have asc := O.lt (l.length - 2) 0 (by omega)
  rw [show 0 + (l.length - 2) + 1 = l.length - 1 by omega] at asc
  rw [within_iff'] at q1
  generalize at2 l 0 = a at *
  generalize at2 l (l.length - 1) = b at *
  have q1' : within f 0 100000 = true := within_iff'.2 q1
  have sp := loose_spec (f := f) asc db.2 da.1 _ rfl
  generalize hR : looseD a b f = R at *
  obtain ⟨a1, a2⟩ := a
  obtain ⟨b1, b2⟩ := b
  simp only at da db fa fb asc
  simp [ef51, k49, q0, c30, q1', r, q2, q2', l0, lm, hne, s0, pp, pl, kl, il, hR, KOp_eq, Int.not_lt.1 q2', Nat.not_lt.1 q2]
  refine wpC_loop (fun q st => ∃ D : Int, q = (100001 - D).toNat ∧ b1 ≤ D ∧ D ≤ 100001 ∧ (∀ D', b1 ≤ D' → D' < D → ¬ lateB (a1, a2) (b1, b2) f D') ∧ st = ⟨[(1, i64 f), (7, .pointer (some ⟨h.length, 0, none⟩)), (8, .pointer (some ⟨h.length + 1, 0, none⟩)), (9, i64 D)], h.freeze ++ [some ⟨[i64 a1, i64 a2], true⟩, some ⟨[i64 b1, i64 b2], true⟩]⟩) (100001 - b1).toNat (by show (100001 - b1).toNat < 2 ^ 64; omega) ?_ ?_
  · simp [St.tidy]
    exact ⟨b1, rfl, by omega, by omega, fun D' h1 h2 => by omega, rfl⟩
  · rintro q hq _ ⟨D, rfl, d0, d1, hno, rfl⟩
    by_cases hlt : D ≤ 100000
    · have m1 : 0 ≤ a2 * (b1 - a1) ∧ a2 * (b1 - a1) ≤ 100000 * 100000 := ⟨Int.mul_nonneg (by omega) (by omega), Int.mul_le_mul (by omega) (by omega) (by omega) (by omega)⟩
      have m3 : 0 ≤ f * (b1 - a1) ∧ f * (b1 - a1) ≤ 100000 * 100000 := ⟨Int.mul_nonneg (by omega) (by omega), Int.mul_le_mul (by omega) (by omega) (by omega) (by omega)⟩
      have m2 : ((b2 - a2) * (D - a1)).natAbs ≤ 100000 * 100000 := by rw [Int.natAbs_mul]; exact Nat.mul_le_mul (by omega) (by omega)
      have lt : lateB (a1, a2) (b1, b2) f D ↔ a2 * (b1 - a1) + (b2 - a2) * (D - a1) ≤ f * (b1 - a1) := Iff.rfl
      have wa : IntKind.wrap .i64 (b1 - a1) = b1 - a1 := wrap_eq (by omega) (by omega)
      have wb : IntKind.wrap .i64 (b2 - a2) = b2 - a2 := wrap_eq (by omega) (by omega)
      have wc : IntKind.wrap .i64 (D - a1) = D - a1 := wrap_eq (by omega) (by omega)
      generalize hX : a2 * (b1 - a1) = X at *
      generalize hY : (b2 - a2) * (D - a1) = Y at *
      generalize hZ : f * (b1 - a1) = Z at *
      have wd : IntKind.wrap .i64 X = X := wrap_eq (by omega) (by omega)
      have we : IntKind.wrap .i64 Y = Y := wrap_eq (by omega) (by omega)
      have wf : IntKind.wrap .i64 Z = Z := wrap_eq (by omega) (by omega)
      have wg : IntKind.wrap .i64 (X + Y) = X + Y := wrap_eq (by omega) (by omega)
      have wh : IntKind.wrap .i64 (D + 1) = D + 1 := wrap_eq (by omega) (by omega)
      by_cases q5 : X + Y ≤ Z
      · have hR2 : R = (D, 0) := by
          rcases sp with ⟨e0, e1, e2, e3, e4⟩ | ⟨_, e1⟩
          · rcases Int.lt_trichotomy R.1 D with z | z | z
            · exact absurd e3 (hno _ e1 z)
            · exact Prod.ext z e0
            · exact absurd (lt.2 q5) (e4 D d0 z)
          · exact absurd (lt.2 q5) (e1 D d0 hlt)
        simp [hlt, wa, wb, wc, wd, we, wf, wg, hX, hY, hZ, q5, hR2]
      · simp [hlt, wa, wb, wc, wd, we, wf, wg, wh, hX, hY, hZ, q5, St.tidy]
        refine ⟨(100001 - (D + 1)).toNat, by omega, D + 1, rfl, by omega, by omega, fun D' h1 h2 => ?_, rfl⟩
        rcases Int.lt_or_le D' D with z | z
        · exact hno D' h1 z
        · rw [show D' = D by omega, lt]; exact q5
    · have hR2 : R = (0, 12) := by
        rcases sp with ⟨e0, e1, e2, e3, e4⟩ | ⟨e, _⟩
        · exact absurd e3 (hno _ e1 (by omega))
        · exact e
      simp [hlt, hR2]
theorem fr1 {bs : Heap} (h1 : bs.length = 1) : ∃ x, Heap.freeze bs = [x] := by
  match bs, h1 with
  | [y], _ => exact ⟨_, rfl⟩
theorem law10 {bs : Heap} {lim : Nat} {v : Value} {l : List P2} {f : Int} (h1 : bs.length = 1) (s : Sl2 bs v l) : E.call 31 lim 10 [v, i64 f] bs = some (.bool true, bs) := by
  have r := s.rules2
  obtain ⟨x, hx⟩ := fr1 h1
  have aw := fun lim => awake1 lim x
  rw [← hx] at aw
  have K49 := fun (L : Heap) lim => c49 (d := 27) (lim := lim) ((Sl_freeze.2 s).app L)
  have K51 := fun (L : Heap) lim => c51 (d := 26) (lim := lim) (f := f) ((Sl_freeze.2 s).app L)
  have K48 := fun (L : Heap) (b n lim : Nat) (hg : Heap.get (bs.freeze ++ L) b = some ⟨cS enc2 l, true⟩) (hn : n = l.length) => c48 (d := 27) (lim := lim) (Sl_own (f := enc2) (es := 2) (fun _ => rfl) hg hn)
  have K50 := fun (L : Heap) (b n lim : Nat) (hg : Heap.get (bs.freeze ++ L) b = some ⟨cS enc2 l, true⟩) (hn : n = l.length) => c50 (d := 26) (lim := lim) (f := f) (Sl_own (f := enc2) (es := 2) (fun _ => rfl) hg hn)
  refine call1 fn10 rfl (by simp [ef10]) ?_
  by_cases h63 : 63 < l.length
  · have i63 : (63 : Int) < l.length := by omega
    simp [ef10, aw, r, i63, Int.not_le.2 i63, Nat.not_le.2 h63]
  have i63 : ¬ (63 : Int) < l.length := by omega
  have A1 := fun (L : Heap) (b : Nat) (hl : l.length ≠ 0) (hg : Heap.get (bs.freeze ++ L) b = some ⟨[], true⟩) => app_some (bytes := 16) ((Sl_freeze.2 s).app L) hl (by omega) hg (c2_one l) (by omega) (by omega)
  have A0 := fun (L : Heap) (b : Nat) (hl : l.length = 0) => app_none (es := 2) (bytes := 16) (b := b) (cs := cS enc2 l) (by have := (Sl_freeze.2 s).app L; rwa [hl] at this) (by omega)
  generalize looseV l f = V at *
  generalize chkT l = C at *
  rcases Nat.eq_zero_or_pos l.length with hz | hz
  · have el : l = [] := List.eq_nil_of_length_eq_zero hz
    have e0 : cS enc2 l = [] := by rw [el]; rfl
    rw [e0] at K48 K50
    simp [ef10, aw, r, i63, zeros, fillL, A0, hz, K48, K49, K50, K51]
  · have n0 : l.length ≠ 0 := by omega
    simp [ef10, aw, r, i63, Int.not_lt.1 i63, zeros, fillL, A1, n0, K48, K49, K50, K51]
end U
end Go.Abs
