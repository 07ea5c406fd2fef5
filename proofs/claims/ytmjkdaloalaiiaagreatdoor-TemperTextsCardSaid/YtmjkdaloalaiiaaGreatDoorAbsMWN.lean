--
import Derived.Test.YtmjkdaloalaiiaaGreatDoorAbsMWM
import Derived.Test.YtmjkdaloalaiiaaGreatDoorAbsMDN
set_option linter.unusedSimpArgs false
set_option linter.unusedVariables false
namespace Go.Abs
namespace M
set_option maxRecDepth 100000
set_option maxHeartbeats 0
theorem c7 {d lim : Nat} {h : Heap} {s : List UInt8} : E.call (d + 6) lim 7 [tx s] h = some (.tuple #[.agg (prsT (rdn 3) s).1.toArray, i64 (prsT (rdn 3) s).2], h) := by
 refine call1 fn7 rfl (by simp [ef7]) ?_
 by_cases h3 : 300 < s.length
 ·have h3' : (300 : Int) < s.length := by omega
  simp [ef7, h3', prsT, h3, zT]
 have h3' : ¬ (300 : Int) < s.length := by omega
 have kSp : ∀ H : Heap, E.call (d + 5) h.length 19 [tx s, .int .u8 32] H = some (lVT H.length (cutB 32 s), H ++ lBT (cutB 32 s)) := fun H => c19 (d := d + 4) (c := 32) (by omega)
 simp only [lVT, lBT, if_neg (cutB_ne 32 s)] at kSp
 by_cases h25 : (cutB 32 s).length = 25
 ·obtain ⟨ws, hws⟩ : ∃ ws, ws = cutB 32 s := ⟨_, rfl⟩
  have wl := wdA_len s
  have pe : prsT (rdn 3) s = if (List.range 12).all (okR (rdn 3) ws) then (if chkT ⟨(wdA ws 0).toArray⟩ (pR (rdn 3) ws) (sR (rdn 3) ws) ≠ 0 then (zT, chkT ⟨(wdA ws 0).toArray⟩ (pR (rdn 3) ws) (sR (rdn 3) ws)) else (tmL (wdA ws 0) (pR (rdn 3) ws) (sR (rdn 3) ws), 0)) else (zT, 7) := by
   rw [hws]; unfold prsT; rw [if_neg h3, if_neg (by rw [h25]; decide)]
  obtain ⟨res, hres⟩ : ∃ res, res = prsT (rdn 3) s := ⟨_, rfl⟩
  rw [← hres]
  rw [pe] at hres
  rw [← hws] at kSp h25 wl
  rw [h25] at kSp
  clear pe hws
  have g0 : (cT ws)[0]? = some (tx (wdA ws 0)) := wdA_get (by omega)
  have zs := zT_spl (C := [tx (wdA ws 0), i64 0, i64 0, i64 0, i64 0, i64 0, i64 0, i64 0, i64 0, i64 0, i64 0, i64 0, i64 0, i64 0, i64 0, i64 0, i64 0, i64 0, i64 0, i64 0, i64 0, i64 0, i64 0, i64 0, i64 0]) rfl
  have cw := cT_plain' ws
  have cl0 : (cT ws).length = 25 := by rw [cT_len, h25]
  simp only [zT] at zs
  simp [ef7, h3', kSp, g0, fillL, zs]
  refine wpC_loop (fun y st => ∃ i : Nat, y = 12 - i ∧ i ≤ 12 ∧ (∀ j, j < i → okR (rdn 3) ws j = true) ∧ st = ⟨[(2, .pointer (some ⟨h.length, 0, none⟩)), (4, .slice (some ⟨h.length + 1, 0, none⟩) 25 1), (5, .pointer (some ⟨h.length + 2, 0, none⟩)), (6, i64 (i : Nat))], h.freeze ++ [some ⟨zT, true⟩, some ⟨cT ws, true⟩, some ⟨tmL (wdA ws 0) (upto (pR (rdn 3) ws) i) (upto (sR (rdn 3) ws) i), true⟩]⟩) 12 (by show 12 < 2 ^ 64; omega) ?_ ?_
  ·simp [-collect_own1, St.tidy, collect_box, cw]
   exact ⟨0, by omega, by omega, fun j hj => by omega, rfl, rfl, rfl⟩
  ·rintro y hy _ ⟨i, rfl, hi, ha, rfl⟩
   have tl : ∀ P S, (tmL (wdA ws 0) P S).length = 25 := fun P S => (tmL_tm _ P S).len
   have tp := tmL_plain (wdA ws 0)
   have zp : zT.all plainV = true := rfl
   by_cases hlt : i < 12
   ·have hlt' : (i : Int) < 12 := by omega
    obtain ⟨k, hk⟩ : ∃ k, k = 2 * i := ⟨_, rfl⟩
    obtain ⟨a, hak⟩ : ∃ a, a = 1 + 2 * i := ⟨_, rfl⟩
    obtain ⟨b, hbk⟩ : ∃ b, b = 2 + 2 * i := ⟨_, rfl⟩
    have wa : IntKind.i64.wrap (2 * (i : Int)) = (k : Int) := by rw [wrapR (by unfold R64; omega)]; omega
    have wb : IntKind.i64.wrap (1 + (k : Int)) = (a : Int) := by rw [wrapR (by unfold R64; omega)]; omega
    have wc : IntKind.i64.wrap (2 + (k : Int)) = (b : Int) := by rw [wrapR (by unfold R64; omega)]; omega
    have w1' : IntKind.i64.wrap ((i : Int) + 1) = ((i + 1 : Nat) : Int) := by rw [wrapR (by unfold R64; omega)]; rfl
    have a25 : a < 25 := by omega
    have b25 : b < 25 := by omega
    have a25' : (a : Int) < 25 := by omega
    have b25' : (b : Int) < 25 := by omega
    have i1 : 1 + i + 1 ≤ 25 := by omega
    have i2 : 13 + i + 1 ≤ 25 := by omega
    have ga : (cT ws)[a]? = some (tx (wdA ws a)) := wdA_get (by omega)
    have gb : (cT ws)[b]? = some (tx (wdA ws b)) := wdA_get (by omega)
    have qa : ∀ L, E.call (d + 5) h.length 20 [tx (wdA ws a), i64 3] (h.freeze ++ L) = some (.tuple #[i64 (rdn 3 (wdA ws a)).1, .bool (rdn 3 (wdA ws a)).2], h.freeze ++ L) := fun L => c20 (d := d + 2) (k := 3) (by omega) (by have := wl a; omega)
    have qb : ∀ L, E.call (d + 5) h.length 20 [tx (wdA ws b), i64 3] (h.freeze ++ L) = some (.tuple #[i64 (rdn 3 (wdA ws b)).1, .bool (rdn 3 (wdA ws b)).2], h.freeze ++ L) := fun L => c20 (d := d + 2) (k := 3) (by omega) (by have := wl b; omega)
    have ok0 : okR (rdn 3) ws i = (((rdn 3) (wdA ws a)).2 && ((rdn 3) (wdA ws b)).2) := by rw [hak, hbk]; rfl
    have p0 : pR (rdn 3) ws i = ((rdn 3) (wdA ws a)).1 := by rw [hak]; rfl
    have s0 : sR (rdn 3) ws i = ((rdn 3) (wdA ws b)).1 := by rw [hbk]; rfl
    have up := upto_step (pR (rdn 3) ws) i
    have us := upto_step (sR (rdn 3) ws) i
    rw [p0] at up
    rw [s0] at us
    rcases hx : (rdn 3) (wdA ws a) with ⟨x, u⟩
    rcases hz : (rdn 3) (wdA ws b) with ⟨z, v⟩
    rw [hx] at qa up ok0
    rw [hz] at qb us ok0
    have sp1 : ∀ P S, splice (tmL (wdA ws 0) P S) (1 + i) [i64 x] = tmL (wdA ws 0) (upd1 P i x) S := fun P S => tmL_setP hlt
    have sp2 : ∀ P S, splice (tmL (wdA ws 0) P S) (13 + i) [i64 z] = tmL (wdA ws 0) P (upd1 S i z) := fun P S => tmL_setS hlt
    have sp3 : ∀ P S, (tmL (wdA ws 0) P S).set (1 + i) (i64 x) = tmL (wdA ws 0) (upd1 P i x) S := sp1
    have sp4 : ∀ P S, (tmL (wdA ws 0) P S).set (13 + i) (i64 z) = tmL (wdA ws 0) P (upd1 S i z) := sp2
    by_cases hu : u = true ∧ v = true
    ·obtain ⟨rfl, rfl⟩ := hu
     simp [-collect_own1, hlt, hlt', wa, wb, wc, w1', a25, b25, a25', b25', i1, i2, ga, gb, qa, qb, sp1, sp2, sp3, sp4, tl, tp, up, us, St.tidy, collect_box, cw, zp]
     exact ⟨12 - (i + 1), by omega, i + 1, rfl, by omega, fun j hj => by
      by_cases q : j = i
      ·subst q; exact ok0
      ·exact ha j (by omega), by omega, rfl⟩
    ·have bad : (List.range 12).all (okR (rdn 3) ws) = false := by
      rw [Bool.eq_false_iff]
      intro q
      have := List.all_eq_true.1 q i (List.mem_range.2 hlt)
      rw [ok0, Bool.and_eq_true] at this
      exact hu this
     rw [bad] at hres
     simp only [Bool.false_eq_true, if_false] at hres
     subst hres
     by_cases hu1 : u = true
     ·have hv1 : v = false := by
       rcases v with _ | _
       ·rfl
       ·exact absurd ⟨hu1, rfl⟩ hu
      subst hu1 hv1
      simp [-collect_own1, hlt, hlt', wa, wb, wc, w1', a25, b25, a25', b25', i1, i2, ga, gb, qa, qb, sp1, sp2, sp3, sp4, tl, tp, up, us, zT]
      done
     ·have hu1 : u = false := by simpa using hu1
      subst hu1
      simp [-collect_own1, hlt, hlt', wa, wb, wc, w1', a25, b25, a25', b25', i1, i2, ga, gb, qa, qb, sp1, sp2, sp3, sp4, tl, tp, up, us, zT]
      done
   ·obtain rfl : i = 12 := by omega
    have good : (List.range 12).all (okR (rdn 3) ws) = true := List.all_eq_true.2 fun j hj => ha j (List.mem_range.1 hj)
    rw [if_pos good] at hres
    rw [tmL_upto]
    have tk := (tmL_tm (wdA ws 0) (pR (rdn 3) ws) (sR (rdn 3) ws)).take
    have tn := tl (pR (rdn 3) ws) (sR (rdn 3) ws)
    have kc : ∀ L, E.call (d + 5) h.length 10 [.agg (tmL (wdA ws 0) (pR (rdn 3) ws) (sR (rdn 3) ws)).toArray] (h.freeze ++ L) = some (i64 (chkT ⟨(wdA ws 0).toArray⟩ (pR (rdn 3) ws) (sR (rdn 3) ws)), h.freeze ++ L) := fun L => c10 (d := d) (tmL_tm _ _ _)
    have zs2 := zT_spl tn
    have tq := tp (pR (rdn 3) ws) (sR (rdn 3) ws)
    have to := tmL_one (wdA ws 0) (pR (rdn 3) ws) (sR (rdn 3) ws)
    have tpl := fun H : Heap => collect_plain2 (n := h.length) (h := H) (v := i64 0) tq rfl
    simp only [zT] at zs2
    generalize chkT ⟨(wdA ws 0).toArray⟩ (pR (rdn 3) ws) (sR (rdn 3) ws) = ck at *
    generalize tmL (wdA ws 0) (pR (rdn 3) ws) (sR (rdn 3) ws) = C at *
    by_cases z : ck = 0
    ·subst z
     rw [if_neg (by simp)] at hres
     subst hres
     simp [-collect_own1, kc, tk, tn, zT, zs2, to, tpl]
    ·rw [if_pos z] at hres
     subst hres
     simp [kc, tk, tn, z, zT]
 ·have h25' : ¬ ((cutB 32 s).length : Int) = 25 := by omega
  simp [ef7, h3', prsT, h3, zT, kSp, h25, h25']
end M
end Go.Abs
namespace Go.Abs
namespace M
set_option maxRecDepth 100000
set_option maxHeartbeats 0
theorem tmL_congr {nm : List UInt8} {P S P' S' : Nat → Int} (h : ∀ i, i < 12 → P i = P' i ∧ S i = S' i) : tmL nm P S = tmL nm P' S' := by
 have e1 : (List.range 12).map (fun i => i64 (P i)) = (List.range 12).map (fun i => i64 (P' i)) := by
  apply List.map_congr_left; intro j hj; rw [(h j (List.mem_range.1 hj)).1]
 have e2 : (List.range 12).map (fun i => i64 (S i)) = (List.range 12).map (fun i => i64 (S' i)) := by
  apply List.map_congr_left; intro j hj; rw [(h j (List.mem_range.1 hj)).2]
 unfold tmL; rw [e1, e2]
theorem chkT_congr {nm : List UInt8} {P S P' S' : Nat → Int} (h : ∀ i, i < 12 → P i = P' i ∧ S i = S' i) : chkT ⟨nm.toArray⟩ P S = chkT ⟨nm.toArray⟩ P' S' := by
 have a := c10 (d := 0) (lim := 0) (h := []) (tmL_tm nm P S)
 have b := c10 (d := 0) (lim := 0) (h := []) (tmL_tm nm P' S')
 rw [tmL_congr h, b] at a
 simp at a
 exact a.symm
theorem ok_same (ws : List (List UInt8)) (i : Nat) : okR cmm ws i = okR (rdn 3) ws i ∧ (okR (rdn 3) ws i = true → pR cmm ws i = pR (rdn 3) ws i ∧ sR cmm ws i = sR (rdn 3) ws i) := by
 unfold okR pR sR
 rcases cmm_rdn (wdA ws (1 + 2 * i)) with ⟨n, _, a, b⟩ | ⟨a, b⟩ <;> rcases cmm_rdn (wdA ws (2 + 2 * i)) with ⟨m, _, a', b'⟩ | ⟨a', b'⟩ <;> simp [a, b, a', b']
theorem prs_same (s : List UInt8) : prsT cmm s = prsT (rdn 3) s := by
 unfold prsT
 by_cases h3 : 300 < s.length
 ·rw [if_pos h3, if_pos h3]
 ·rw [if_neg h3, if_neg h3]
  by_cases h25 : (cutB 32 s).length ≠ 25
  ·rw [if_pos h25, if_pos h25]
  ·rw [if_neg h25, if_neg h25]
   generalize cutB 32 s = ws
   have eo : okR cmm ws = okR (rdn 3) ws := funext fun i => (ok_same ws i).1
   rw [eo]
   by_cases ha : (List.range 12).all (okR (rdn 3) ws) = true
   ·rw [if_pos ha, if_pos ha]
    have h : ∀ i, i < 12 → pR cmm ws i = pR (rdn 3) ws i ∧ sR cmm ws i = sR (rdn 3) ws i := fun i hi => (ok_same ws i).2 (List.all_eq_true.1 ha i (List.mem_range.2 hi))
    rw [tmL_congr h, chkT_congr h]
   ·rw [if_neg ha, if_neg ha]
theorem prs_form (R : List UInt8 → Int × Bool) (s : List UInt8) : ∃ nm P S, (prsT R s).1 = tmL nm P S := by
 have z : zT = tmL [] (fun _ => 0) (fun _ => 0) := rfl
 unfold prsT
 split
 ·exact ⟨_, _, _, z⟩
 ·split
  ·exact ⟨_, _, _, z⟩
  ·split
   ·split
    ·exact ⟨_, _, _, z⟩
    ·exact ⟨_, _, _, rfl⟩
   ·exact ⟨_, _, _, z⟩
abbrev kT : List CK := [.str, .int .i64, .int .i64, .int .i64, .int .i64, .int .i64, .int .i64, .int .i64, .int .i64, .int .i64, .int .i64, .int .i64, .int .i64, .int .i64, .int .i64, .int .i64, .int .i64, .int .i64, .int .i64, .int .i64, .int .i64, .int .i64, .int .i64, .int .i64, .int .i64]
theorem tmL_same (nm : List UInt8) (P S : Nat → Int) : E.eqCells kT (tmL nm P S) (tmL nm P S) = some true := by
 simp [tmL, kT, E.eqCells, List.range_succ]
theorem walk3 {lim : Nat} {h : Heap} {s : List UInt8} (e : Er h) (sp : SlU h (.slice (some ⟨0, 0, none⟩) 3 1) [2, 3, 5]) : E.call 21 lim 3 [tx s] h = some (.bool true, h) := by
 refine call1 fn3 rfl (by simp [ef3]) ?_
 have aw : ∀ L, E.call 20 h.length 5 [] (h.freeze ++ L) = some (.bool true, h.freeze ++ L) := fun L => awake (d := 11) ((Sl_freeze.2 sp).app L)
 have aw0 : E.call 20 h.length 5 [] h.freeze = some (.bool true, h.freeze) := awake (d := 11) (Sl_freeze.2 sp)
 by_cases h3 : 310 < s.length
 ·have h3' : (310 : Int) < s.length := by omega
  simp [ef3, aw0, h3, h3']
 ·have h3' : ¬ (310 : Int) < s.length := by omega
  obtain ⟨nm, P, S, pf⟩ := prs_form (rdn 3) s
  have k6 : ∀ L, E.call 20 h.length 6 [tx s] (h.freeze ++ L) = some (.tuple #[.agg (tmL nm P S).toArray, i64 (prsT (rdn 3) s).2], h.freeze ++ L) := fun L => by
   rw [← pf, ← prs_same]; exact c6 (d := 15) e.freeze.app
  have k7 : ∀ L, E.call 20 h.length 7 [tx s] (h.freeze ++ L) = some (.tuple #[.agg (tmL nm P S).toArray, i64 (prsT (rdn 3) s).2], h.freeze ++ L) := fun L => by
   rw [← pf]; exact c7 (d := 14)
  have k60 := k6 []
  rw [List.append_nil] at k60
  have tk := (tmL_tm nm P S).take
  have tn := (tmL_tm nm P S).len
  have zs := zT_spl tn
  have to := tmL_one nm P S
  have sm := tmL_same nm P S
  simp only [zT] at zs
  simp only [kT] at sm
  generalize tmL nm P S = C at *
  generalize (prsT (rdn 3) s).2 = er at *
  simp [ef3, aw0, h3', k60, k6, k7, tk, tn, zs, to, sm]
end M
end Go.Abs
