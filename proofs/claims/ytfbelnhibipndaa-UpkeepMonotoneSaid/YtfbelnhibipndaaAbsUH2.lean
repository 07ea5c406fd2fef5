/- Chapter 7: monotone: the law. -/
import Derived.Test.YtfbelnhibipndaaAbsUH1
import Derived.Test.YtfbelnhibipndaaAbsUT2
import Derived.Test.YtfbelnhibipndaaAbsUF4
set_option linter.unusedSimpArgs false
set_option linter.unusedVariables false
namespace Go.Abs
namespace U
set_option maxRecDepth 100000
set_option maxHeartbeats 0
theorem fr2c {bs : Heap} (h1 : bs.length = 2) : ∃ x y, Heap.freeze bs = [x, y] := by
  match bs, h1 with
  | [x, y], _ => exact ⟨_, _, rfl⟩
theorem law6 {bs : Heap} {lim : Nat} {v w : Value} {l : List P2} {g : List Int} {s m r t day : Int} (h1 : bs.length = 2) (sl : Sl2 bs v l) (sg : SlI' bs w g) : E.call 31 lim 6 [vD s m r t, .agg #[v, w, i64 day]] bs = some (.bool true, bs) := by
  have rr := sl.rules2
  have rg := sg.rules2
  obtain ⟨z1, z2, hx⟩ := fr2c h1
  have aw : ∀ lim A B, E.call 30 lim 14 [] (bs.freeze ++ [A, B]) = some (.bool true, bs.freeze ++ [A, B]) := fun lim A B => by rw [hx]; exact awake4 lim z1 z2 A B
  refine call1 fn6 rfl (by simp [ef6]) ?_
  by_cases q0 : l.length ≤ 10
  case neg =>
    have q0i : ¬ (l.length : Int) ≤ 10 := by omega
    simp [ef6, aw, q0, q0i, rr]
  have K29 := fun H lim => c29 (d := 28) (lim := lim) (h := H) (s := s) (m := m) (r := r) (t := t)
  have K20 := fun (L : Heap) lim => c20 (d := 29) (lim := lim) ((Sl_freeze.2 sl).app L) (by omega)
  have K20f := fun (L : Heap) lim => c20 (d := 29) (lim := lim) (h := Heap.freeze (bs.freeze ++ L)) (Sl_freeze.2 ((Sl_freeze.2 sl).app L)) (by omega)
  have K19 := fun (L : Heap) (b' n' lim : Nat) (hg : Heap.get (bs.freeze ++ L) b' = some ⟨cS enc2 l, true⟩) (hn : n' = l.length) => c19 (d := 26) (lim := lim) (Sl_own (f := enc2) (es := 2) (fun _ => rfl) hg hn)
  have q0i : (l.length : Int) ≤ 10 := by omega
  by_cases q1 : g.length = l.length
  case neg =>
    have q1i : ¬ (g.length : Int) = l.length := by omega
    simp [ef6, aw, q0, q0i, rr, rg, q1, q1i]
  have q1i : (g.length : Int) = l.length := by omega
  by_cases q2 : within day 1 400 = true
  case neg => simp [ef6, aw, q0, q0i, rr, rg, q1, q1i, c30, q2]
  by_cases q3 : drE s m r t = 0
  case neg => simp [ef6, aw, q0, q0i, rr, rg, q1, q1i, c30, q2, K29, q3]
  by_cases q4 : chkC l = 0
  case neg => simp [ef6, aw, q0, q0i, rr, rg, q1, q1i, c30, q2, K29, q3, K20, K19, q4]
  simp [ef6, aw, q0, q0i, rr, rg, q1, q1i, c30, q2, K29, q3, K20, K19, q4]
  have O := COk.of q4
  refine wpC_loop (fun q st => ∃ (i : Nat) (ms : List P2) (ab : Bool), q = l.length - i ∧ i ≤ l.length ∧ Wet l ms ∧ (∀ j, j < l.length → (at2 ms j).2 ≤ 1000) ∧ (∀ j, i ≤ j → j < l.length → at2 ms j = at2 l j) ∧ (ab = true → ∀ j, j < i → s ≤ (at2 l j).2) ∧ st = ⟨[(2, pt bs.length), (3, pt (bs.length + 1)), (5, .slice (some ⟨bs.length + 2, 0, none⟩) l.length 2), (6, .bool ab), (7, i64 (i : Int))], bs.freeze ++ [some ⟨[i64 s, i64 m, i64 r, i64 t], true⟩, some ⟨[v, w, i64 day], true⟩, some ⟨cS enc2 ms, true⟩]⟩) l.length (by show l.length < 2 ^ 64; omega) ?_ ?_
  · have cp := c2_plain l
    simp [-collect_own1, St.tidy, collect_box, sl.own, sg.own, rr, rg, cp]
    exact ⟨0, by omega, by omega, l, ⟨rfl, fun _ _ => rfl, fun _ _ => Int.le_refl _⟩, fun j hj => (O.hum j hj).2, fun _ _ _ => rfl, fun j hj => absurd hj (by omega), by simp⟩
  · rintro q hq _ ⟨i, ms, ab, rfl, hi, W, hb, hs, hab, rfl⟩
    have cp := c2_plain ms
    have cm := c2_len ms
    rw [W.len] at cm
    by_cases hlt : i < l.length
    · have hlti : (i : Int) < l.length := by omega
      have hg : i < g.length := by omega
      have ca' : ∀ hh, (cI g)[i]'hh = i64 g[i] := fun hh => by simp [cI]
      have gi := cI_at g hg
      have hm : i < ms.length := by rw [W.len]; exact hlt
      have p := c2_1 hm
      have k2 : i * 2 + 1 + 1 ≤ l.length * 2 := by omega
      have k1 : i * 2 + 1 < l.length * 2 := by omega
      by_cases g1 : within g[i] 0 1000 = true
      case neg => simp [hlti, hlt, hg, q1, q1i, Nat.not_le.2 hlt, rr, rg, ca', gi, c30, g1]
      have g1' := within_iffC.1 g1
      have hh := O.hum i hlt
      have hms := hs i (by omega) hlt
      have wy : IntKind.wrap .i64 ((at2 l i).2 + g[i]) = (at2 l i).2 + g[i] := wrap_eq (by omega) (by omega)
      have w1' := w1 (i := i) (by omega)
      have st := c2_set (y := min 1000 ((at2 l i).2 + g[i])) hm
      rw [hms] at p st
      have p' : ∀ hh, (cS enc2 ms)[i * 2 + 1]'hh = i64 (at2 l i).2 := fun hh => by rw [List.getElem?_eq_getElem hh] at p; exact Option.some.inj p
      have hd : (at2 l i).1 = (at2 ms i).1 := by rw [hms]
      generalize hy : min 1000 ((at2 l i).2 + g[i]) = y at *
      have cp2 := c2_plain (ms.set i ((at2 l i).1, y))
      have ny : noAddr (i64 y) = true := rfl
      have nxt : ∀ ab' : Bool, (ab' = true → ab = true ∧ s ≤ (at2 l i).2) → ∃ (i' : Nat) (ms' : List P2), i' ≤ l.length ∧ l.length - i' < l.length - i ∧ Wet l ms' ∧ (∀ j, j < l.length → (at2 ms' j).2 ≤ 1000) ∧ (∀ j, i' ≤ j → j < l.length → at2 ms' j = at2 l j) ∧ (ab' = true → ∀ j, j < i' → s ≤ (at2 l j).2) ∧ i' = i + 1 ∧ ms' = ms.set i ((at2 l i).1, y) := by
        intro ab' hb'
        refine ⟨i + 1, _, by omega, by omega, ⟨by simp [W.len], fun j hj => ?_, fun j hj => ?_⟩, fun j hj => ?_, fun j h1 h2 => ?_, fun e j hj => ?_, rfl, rfl⟩
        · rw [at2_set hm]; split
          · subst j; rfl
          · exact W.day j hj
        · rw [at2_set hm]; split
          · subst j; show _ ≤ y; omega
          · exact W.hum j hj
        · rw [at2_set hm]; split
          · show y ≤ _; omega
          · exact hb j hj
        · rw [at2_set hm, if_neg (by omega)]; exact hs j (by omega) h2
        · obtain ⟨e1, e2⟩ := hb' e
          rcases Nat.lt_or_ge j i with z | z
          · exact hab e1 j z
          · obtain rfl : j = i := by omega
            exact e2
      cases ab
      · simp [-collect_own1, hlti, hlt, hg, q1, q1i, Nat.not_le.2 hlt, rr, rg, ca', gi, c30, g1, p', k1, k2, cm, wy, hy, st, w1', ny, St.tidy, collect_box, sl.own, sg.own, cp2]
        obtain ⟨i', ms', a1, a2, a3, a4, a5, a6, e1, e2⟩ := nxt false (fun z => by cases z)
        exact ⟨_, a2, i', rfl, a1, ms', a3, a4, a5, by omega, by rw [e2]⟩
      · by_cases g2 : s ≤ (at2 l i).2
        · simp [-collect_own1, hlti, hlt, hg, q1, q1i, Nat.not_le.2 hlt, rr, rg, ca', gi, c30, g1, p', k1, k2, cm, wy, hy, st, w1', ny, St.tidy, collect_box, sl.own, sg.own, cp2, g2]
          obtain ⟨i', ms', a1, a2, a3, a4, a5, a6, e1, e2⟩ := nxt true (fun z => ⟨rfl, g2⟩)
          exact ⟨_, a2, i', rfl, a1, ms', a3, a4, a5, a6 rfl, by omega, by rw [e2]⟩
        · simp [-collect_own1, hlti, hlt, hg, q1, q1i, Nat.not_le.2 hlt, rr, rg, ca', gi, c30, g1, p', k1, k2, cm, wy, hy, st, w1', ny, St.tidy, collect_box, sl.own, sg.own, cp2, g2]
          obtain ⟨i', ms', a1, a2, a3, a4, a5, a6, e1, e2⟩ := nxt false (fun z => by cases z)
          exact ⟨_, a2, i', rfl, a1, ms', a3, a4, a5, by omega, by rw [e2]⟩
    · obtain rfl : i = l.length := by omega
      have d2 := within_iffC.1 q2
      obtain ⟨n, rfl⟩ := Int.eq_ofNat_of_zero_le (show 0 ≤ day by omega)
      have qd : within s 0 1000 = true ∧ within m 1 365 = true ∧ within r 0 1000 = true ∧ within t 0 1000000 = true := by
        have q3 := q3
        unfold drE at q3
        by_cases z : within s 0 1000 = true ∧ within m 1 365 = true ∧ within r 0 1000 = true ∧ within t 0 1000000 = true
        · exact z
        · rw [if_neg z] at q3; cases q3
      obtain ⟨s0, m0, r0, t0⟩ := qd
      have m0' := within_iffC.1 m0
      have r0' := within_iffC.1 r0
      have t0' := within_iffC.1 t0
      have q5 := W.chk q4 hb
      have aE : ∀ least, least = 0 ∨ least = 1 → allE s m r t l n least = 0 ∧ allE s m r t ms n least = 0 := fun least h => by
        have : within n least 4000 = true := within_iffC.2 (by omega)
        unfold allE
        rw [if_pos q3, if_pos q4, if_pos q3, if_pos q5, if_pos this]; exact ⟨rfl, rfl⟩
      have aT : allE s m r (t + 1) l n 1 = if t + 1 ≤ 1000000 then 0 else 2 := by
        have : within n 1 4000 = true := within_iffC.2 (by omega)
        have e : drE s m r (t + 1) = if t + 1 ≤ 1000000 then 0 else 2 := by
          unfold drE
          by_cases z : t + 1 ≤ 1000000
          · rw [if_pos ⟨s0, m0, r0, within_iffC.2 (by omega)⟩, if_pos z]
          · rw [if_neg (fun y => z (within_iffC.1 y.2.2.2).2), if_neg z]
        unfold allE
        rw [e, if_pos q4, if_pos this]
        by_cases z : t + 1 ≤ 1000000
        · rw [if_pos z]; rfl
        · rw [if_neg z]; rfl
      obtain ⟨a0, b0⟩ := aE 0 (.inl rfl)
      obtain ⟨a1, b1⟩ := aE 1 (.inr rfl)
      have K20o := fun (L : Heap) (b' n' lim : Nat) (hg : Heap.get (bs.freeze ++ L) b' = some ⟨cS enc2 ms, true⟩) (hn : n' = ms.length) => c20 (d := 29) (lim := lim) (h := Heap.freeze (bs.freeze ++ L)) (Sl_own (f := enc2) (es := 2) (fun _ => rfl) (hget_freeze hg) hn) (by rw [W.len]; omega)
      have K25 := fun (u : List P2) (L : Heap) (b' n' lim : Nat) (hg : Heap.get (bs.freeze ++ L) b' = some ⟨cS enc2 u, true⟩) (hn : n' = u.length) => c25 (d := 21) (lim := lim) (s := s) (m := m) (r := r) (t := t) (day := n) (Sl_own (f := enc2) (es := 2) (fun _ => rfl) hg hn)
      have K26 := fun (u : List P2) (L : Heap) (b' n' lim : Nat) (hg : Heap.get (bs.freeze ++ L) b' = some ⟨cS enc2 u, true⟩) (hn : n' = u.length) => c26 (d := 21) (lim := lim) (s := s) (m := m) (r := r) (t := t) (day := n) (Sl_own (f := enc2) (es := 2) (fun _ => rfl) hg hn)
      have K27 := fun (u : List P2) (t : Int) (L : Heap) (b' n' lim : Nat) (hg : Heap.get (bs.freeze ++ L) b' = some ⟨cS enc2 u, true⟩) (hn : n' = u.length) => c27 (d := 22) (lim := lim) (s := s) (m := m) (r := r) (t := t) (day := n) (Sl_own (f := enc2) (es := 2) (fun _ => rfl) hg hn)
      have K25l := K25 l
      have K25w := K25 ms
      have K26l := K26 l
      have K26w := K26 ms
      have K27l := K27 l t
      have K27w := K27 ms t
      have K27t := K27 l (t + 1)
      rw [show moE s m r t l n = (mo s m l n, 0) by unfold moE; rw [if_pos a0]; rfl] at K25l
      rw [show moE s m r t ms n = (mo s m ms n, 0) by unfold moE; rw [if_pos b0]; rfl] at K25w
      rw [show ofE s m r t l n = (offV s r (mo s m l n), 0) by unfold ofE; rw [if_pos a0]; rfl] at K26l
      rw [show ofE s m r t ms n = (offV s r (mo s m ms n), 0) by unfold ofE; rw [if_pos b0]; rfl] at K26w
      rw [show svE s m r t l n = ((svcN s m r t l n : Int), 0) by unfold svE; rw [if_pos a1]; rfl] at K27l
      rw [show svE s m r t ms n = ((svcN s m r t ms n : Int), 0) by unfold svE; rw [if_pos b1]; rfl] at K27w
      have wt : IntKind.wrap .i64 (t + 1) = t + 1 := wrap_eq (by omega) (by omega)
      have f1 := W.mo (s := s) O (m := m) (by omega) n
      have f2 := offV_mono (s := s) r0'.1 f1
      have f3 := fun hs => svc_wet (day := n) (t := t) W O (s := s) (m := m) (r := r) (by omega) (by omega) hs
      have f4 := svc_tol (l := l) (s := s) (m := m) (r := r) (t := t) (day := n)
      have nt : noAddr (i64 (t + 1)) = true := rfl
      have wl := W.len
      have hab' : ab = true → svcN s m r t ms n ≤ svcN s m r t l n := fun e => f3 (hab e)
      by_cases z : t + 1 ≤ 1000000
      · rw [show svE s m r (t + 1) l n = ((svcN s m r (t + 1) l n : Int), 0) by unfold svE; rw [aT, if_pos z, if_pos rfl]; rfl] at K27t
        generalize hp : svcN s m r t l n = p at *
        generalize hq2 : svcN s m r t ms n = q' at *
        generalize hp2 : svcN s m r (t + 1) l n = p2 at *
        have f4' : (p : Int) ≤ p2 := by omega
        cases ab
        · simp [K20f, K20o, K25l, K25w, K26l, K26w, K27l, K27w, K27t, wt, nt, wl, f1, f2, f4, f4', Int.not_lt.2 f1, Int.not_lt.2 f2]
        · have h3 := hab' rfl
          simp [K20f, K20o, K25l, K25w, K26l, K26w, K27l, K27w, K27t, wt, nt, wl, f1, f2, f4, f4', h3, Int.not_lt.2 f1, Int.not_lt.2 f2]
      · rw [show svE s m r (t + 1) l n = (0, 2) by unfold svE; rw [aT, if_neg z, if_neg (by decide)]] at K27t
        generalize hp : svcN s m r t l n = p at *
        generalize hq2 : svcN s m r t ms n = q' at *
        have z1 : 1000000 < t + 1 := by omega
        have z2 : 1000000 ≤ t := by omega
        cases ab
        · simp [K20f, K20o, K25l, K25w, K26l, K26w, K27l, K27w, K27t, wt, nt, wl, f1, f2, z1, z2, Int.not_lt.2 f1, Int.not_lt.2 f2]
        · have h3 := hab' rfl
          simp [K20f, K20o, K25l, K25w, K26l, K26w, K27l, K27w, K27t, wt, nt, wl, f1, f2, h3, z1, z2, Int.not_lt.2 f1, Int.not_lt.2 f2]
end U
end Go.Abs
