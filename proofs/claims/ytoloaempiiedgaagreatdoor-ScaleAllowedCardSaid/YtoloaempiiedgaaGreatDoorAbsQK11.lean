/- The allowed gauges: the law. -/
import Derived.Test.YtoloaempiiedgaaGreatDoorAbsQKM
import Derived.Test.YtoloaempiiedgaaGreatDoorAbsQZ1
import Derived.Test.YtoloaempiiedgaaGreatDoorAbsQVM
set_option linter.unusedSimpArgs false
set_option linter.unusedVariables false
namespace Go.Abs
namespace Q
set_option maxRecDepth 100000
set_option maxHeartbeats 0
set_option linter.unusedSimpArgs false
abbrev qI (l : List Int) : Option Blk := some ⟨cI l, true⟩
theorem erA_parts {t : Int} {wl : List Wi} {l : List Un} {L : Lm} {G : List Int} (h : erA t wl l L G = 0) : (stE t wl l).2 = 0 ∧ lmE L = 0 ∧ ggE G = 0 := by
  unfold erA at h
  by_cases a : (stE t wl l).2 ≠ 0
  · rw [if_pos a] at h; exact absurd h a
  rw [if_neg a] at h
  by_cases b : lmE L ≠ 0
  · rw [if_pos b] at h; exact absurd h b
  rw [if_neg b] at h
  exact ⟨by omega, by omega, h⟩
theorem c3 {d lim : Nat} {h : Heap} {v w gv : Value} {wl : List Wi} {l : List Un} {t : Int} {L : Lm} {G : List Int} (sp : Pr h) (s : SlW h v wl) (q : SlN h w l) (p : SlI' h gv G) : E.call (d + 11) lim 3 [stV t v w, lmV L, gv] h = some (.bool true, h) := by
  have rs := s.rules2
  have rq := q.rules2
  have rg := p.rules2
  have k10 := fun lim hh => c6 (d := d + 2) (lim := lim) (h := hh)
  have k11 := fun lim A => c7 (d := d + 8) (lim := lim) (t := t) ((Sl_freeze.2 s).app A) ((Sl_freeze.2 q).app A)
  have k12 := fun lim A => c8 (d := d + 9) (lim := lim) ((Sl_freeze.2 p).app A)
  have spA := fun A => (Sl_freeze.2 sp).app A
  refine call1 fn3 rfl (by simp [ef3]) ?_
  rcases fw : fewB wl l with _ | _
  · simp [ef3, k10, k11, fw]
  obtain ⟨lw, hnm, l6⟩ := few_ok fw
  rcases fg : fewG G.length with _ | _
  · simp [ef3, k10, k11, k12, fw, fg]
  have g25 : G.length ≤ 25 := by unfold fewG at fg; simp at fg; omega
  have k14 := fun lim A => c14 (d := d + 9) (lim := lim) (t := t) (Sl_freeze.2 ((Sl_freeze.2 s).app A)) (Sl_freeze.2 ((Sl_freeze.2 q).app A)) (by omega) (by omega)
  have k15 := fun lim A => c15g (d := d + 9) (lim := lim) (Sl_freeze.2 ((Sl_freeze.2 p).app A)) (by omega)
  obtain ⟨ov, K, k13, x1, x2⟩ := c9 (d := d) (lim := h.length) (t := t) (X := L) (spA [qB t v w, qL L, qW wl, qN l, qI G]) (ownW (h := h) (l := wl) [qB t v w, qL L, qW wl, qN l, qI G] (k := 2) rfl) (ownN (h := h) (l := l) [qB t v w, qL L, qW wl, qN l, qI G] (k := 3) rfl) (ownI (h := h) (l := G) [qB t v w, qL L, qW wl, qN l, qI G] (k := 4) rfl rfl) (by omega) hnm (by simp)
  have k16 := fun lim A => c16 (d := d + 3) (lim := lim) (t := t) (L := L) ((Sl_freeze.2 s).app A) ((Sl_freeze.2 q).app A) ((Sl_freeze.2 p).app A) (by omega)
  obtain ⟨A, hA⟩ : ∃ A, A = [qB t v w, qL L, qW wl, qN l, qI G] ++ K := ⟨_, rfl⟩
  have a0 : A[0]? = some (qB t v w) := by rw [hA]; rfl
  have a1 : A[1]? = some (qL L) := by rw [hA]; rfl
  have A0 : 0 < A.length := by rw [hA]; simp
  have A1 : 1 < A.length := by rw [hA]; simp
  rw [List.append_assoc, ← hA] at k13 x2
  by_cases he : erA t wl l L G = 0
  · obtain ⟨he1, he2, he3⟩ := erA_parts he
    have O := StOk.of he1
    obtain ⟨vs, x2⟩ := x2 he
    have gl := (ggE_0 he3).2
    have k19 := fun lim A => c19 (d := d + 5) (lim := lim) (Sl_freeze.2 ((Sl_freeze.2 s).app A)) (Sl_freeze.2 ((Sl_freeze.2 q).app A)) he1
    have fl := mapU_len (frq t) l
    unfold newV newK at k19
    simp only [fl] at k19
    have ixl : ∀ i, i < l.length → (ixR (alR wl t (atN l i) L G) G.length).length ≤ 1000 := fun i _ => Nat.le_trans (ixR_le _ _) (by omega)
    rcases Nat.eq_zero_or_pos l.length with z | z
    · have el : l = [] := List.eq_nil_of_length_eq_zero z
      subst el
      have gn : ∀ hh : Heap, SlR hh (.slice none 0 0) [] := fun hh => ⟨rfl, rfl, fun q => absurd rfl q, .inl rfl, fun k hk => by simp at hk⟩
      obtain ⟨ov2, K2, vs2, k18, x3⟩ := c18 (d := d + 1) (lim := h.length) (X := L) ((Sl_freeze.2 s).app A) ((Sl_freeze.2 q).app A) (gn _) ((Sl_freeze.2 p).app A) O gl
      have k17 := fun lim => c17 (d := d + 8) (lim := lim) (x2.app K2) x3 (by omega) ixl
      simp at k18 k17 k13 k14 k16 k19
      simp [ef3, k10, k11, k12, fw, fg, k14, k15, k13, k16, k19, k18, k17, he, a0, a1, lgetE a0, lgetE a1, A0, A1, Nat.add_assoc]
      done
    · have zi : l.length ≠ 0 := by omega
      simp only [if_neg zi] at k19
      have oR := ownR (h := h) (l := mapU (frq t) l) (A ++ [qR (mapU (frq t) l)]) (k := A.length) (by rw [lget_right0 rfl]; rfl)
      rw [fl] at oR
      obtain ⟨ov2, K2, vs2, k18, x3⟩ := c18 (d := d + 1) (lim := h.length) (X := L) ((Sl_freeze.2 s).app (A ++ [qR (mapU (frq t) l)])) ((Sl_freeze.2 q).app _) (by exact oR) ((Sl_freeze.2 p).app _) O gl
      have k17 := fun lim => c17 (d := d + 8) (lim := lim) ((x2.app [qR (mapU (frq t) l)]).app K2) (by simpa using x3) (by omega) ixl
      simp at k18 k17
      simp [ef3, k10, k11, k12, fw, fg, k14, k15, k13, k16, k19, k18, k17, he, a0, a1, lgetE a0, lgetE a1, A0, A1, Nat.add_assoc]
      done
  · have := x1 he
    subst this
    simp [ef3, k10, k11, k12, fw, fg, k14, k15, k13, k16, he, a0, a1, lgetE a0, lgetE a1, A0, A1, Nat.add_assoc]
    done
end Q
end Go.Abs
