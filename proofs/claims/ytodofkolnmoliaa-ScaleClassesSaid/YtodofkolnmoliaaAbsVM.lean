/- Chapter 2: what grows with a string. -/
import Derived.Test.YtodofkolnmoliaaAbsVA
set_option linter.unusedSimpArgs false
set_option linter.unusedVariables false
namespace Go.Abs
namespace V
set_option maxRecDepth 100000
set_option maxHeartbeats 0
theorem mulM {a b A B : Int} (h0 : 0 ≤ a) (h1 : a ≤ A) (k0 : 0 ≤ b) (k1 : b ≤ B) : a * b ≤ A * B := (mulB h0 h1 k0 k1).2
theorem way_mono {s s' : Sd} {f f' : Int} (hs : 0 ≤ s.len) (hl : s.len ≤ s'.len) (h0 : 0 ≤ f) (hf : f ≤ f') : wayL s f ≤ wayL s' f' ∧ wayH s f ≤ wayH s' f' := by
  have m := mulM h0 hf hs hl
  unfold wayL wayH up
  generalize f * s.len = x at *
  generalize f' * s'.len = y at *
  omega
theorem sq_mono {x y : Int} (h0 : 0 ≤ x) (h : x ≤ y) : sqL x ≤ sqL y ∧ sqH x ≤ sqH y := by
  have m := mulM h0 h h0 h
  unfold sqL sqH up
  generalize x * x = a at *
  generalize y * y = b at *
  omega
theorem ten_mono {l : List Wi} {s s' : Sd} (h : SdOk l s) (hm : mOf l s ≤ mOf l s') (hl : s.len ≤ s'.len) {f f' : Int} (h1 : 1 ≤ f) (hf : f ≤ f') (h2 : f' ≤ 10000000) :
    tenL l s f ≤ tenL l s' f' ∧ tenH l s f ≤ tenH l s' f' := by
  have c := h.len
  obtain ⟨w1, w2⟩ := way_mono (s := s) (s' := s') (f := f) (f' := f') (by omega) hl (by omega) hf
  obtain ⟨_, _, b1, b2, b3, b4, _⟩ := way_bd h h1 (by omega)
  have q1 := (sq_mono b1 w1).1
  have q2 := (sq_mono (by omega) w2).2
  have p1 := (sqL_bd b1 b2).2.2.1
  have p2 := (sqH_bd (show 0 ≤ wayH s f by omega) b4).2.2.1
  have m0 := mOf_bd h
  unfold tenL tenH
  generalize sqL (wayL s f) = x at *
  generalize sqL (wayL s' f') = x' at *
  generalize sqH (wayH s f) = y at *
  generalize sqH (wayH s' f') = y' at *
  have a1 : mOf l s / 10000 ≤ mOf l s' / 10000 := by omega
  have a2 : up (mOf l s) 10000 ≤ up (mOf l s') 10000 := by unfold up; omega
  have a3 : 0 ≤ mOf l s / 10000 := by omega
  have a4 : 0 ≤ up (mOf l s) 10000 := by unfold up; omega
  generalize mOf l s / 10000 = u at *
  generalize mOf l s' / 10000 = u' at *
  generalize up (mOf l s) 10000 = v at *
  generalize up (mOf l s') 10000 = v' at *
  have e1 := mulM a3 a1 p1 q1
  have e2 := mulM a4 a2 p2 q2
  unfold up
  generalize u * x = r at *
  generalize u' * x' = r' at *
  generalize v * y = t at *
  generalize v' * y' = t' at *
  omega
theorem ten_le {l : List Wi} {s : Sd} (h : SdOk l s) {f : Int} (h1 : 1 ≤ f) (h2 : f ≤ 10000000) : tenL l s f ≤ tenH l s f := by
  obtain ⟨_, _, b1, b2, b3, b4, b5⟩ := way_bd h h1 h2
  have q := (sq_mono b1 b5).1
  have q2 : sqL (wayH s f) ≤ sqH (wayH s f) := by unfold sqL sqH up; generalize wayH s f * wayH s f = z; omega
  have p1 := (sqL_bd b1 b2).2.2.1
  have m0 := mOf_bd h
  unfold tenL tenH
  generalize sqL (wayH s f) = z at *
  generalize sqL (wayL s f) = x at *
  generalize sqH (wayH s f) = y at *
  have a1 : mOf l s / 10000 ≤ up (mOf l s) 10000 := by unfold up; omega
  have a3 : 0 ≤ mOf l s / 10000 := by omega
  generalize mOf l s / 10000 = u at *
  generalize up (mOf l s) 10000 = v at *
  have e1 := mulM a3 a1 p1 (Int.le_trans q q2)
  unfold up
  generalize u * x = r at *
  generalize v * y = t at *
  omega
theorem mOf_core {l : List Wi} {s s' : Sd} (h : SdOk l s) (ho : s.over = 0) (ho' : s'.over = 0) (hw : s.wire = s'.wire) (hc : s.core ≤ s'.core) : mOf l s ≤ mOf l s' := by
  have c := h.core
  obtain ⟨m1, _⟩ := getW_ok h.w h.wir
  unfold mOf
  rw [if_pos ho, if_pos ho', ← hw, Int.mul_assoc, Int.mul_assoc]
  have q := mulM (a := s.core) (A := s'.core) (b := s.core) (B := s'.core) (by omega) hc (by omega) hc
  have r := mulM (a := (getW l s.wire).mass) (A := (getW l s.wire).mass) (b := s.core * s.core) (B := s'.core * s'.core) (by omega) (Int.le_refl _) (Int.mul_nonneg (by omega) (by omega)) q
  omega
theorem mOf_len {l : List Wi} {s s' : Sd} (hc : s'.core = s.core) (ho : s'.over = s.over) (hw : s'.wire = s.wire) (hr : s'.wrap = s.wrap) : mOf l s' = mOf l s := by
  unfold mOf; rw [hc, ho, hw, hr]
end V
end Go.Abs
