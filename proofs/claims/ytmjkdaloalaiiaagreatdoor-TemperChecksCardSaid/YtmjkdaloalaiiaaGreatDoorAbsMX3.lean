--
import Derived.Test.YtmjkdaloalaiiaaGreatDoorAbsMXM
set_option linter.unusedSimpArgs false
set_option linter.unusedVariables false
namespace Go.Abs
namespace M
set_option maxRecDepth 100000
set_option maxHeartbeats 0
theorem cutB_cons (c x : UInt8) (r : List UInt8) : cutB c (x :: r) = if x = c then [] :: cutB c r else match cutB c r with | [] => [] | w :: ws => (x :: w) :: ws := rfl
theorem cutB_app (c : UInt8) (b : List UInt8) : ∀ a : List UInt8, cutB c (a ++ c :: b) = cutB c a ++ cutB c b
 | [] => by
  rw [List.nil_append, cutB_cons, if_pos rfl]; rfl
 | x :: r => by
  have ih := cutB_app c b r
  rw [List.cons_append, cutB_cons, cutB_cons]
  by_cases h : x = c
  ·rw [if_pos h, if_pos h, ih, List.cons_append]
  ·rw [if_neg h, if_neg h, ih]
   rcases e : cutB c r with _ | ⟨w, ws⟩
   ·exact absurd e (cutB_ne c r)
   ·rfl
theorem cut_prt {nm : List UInt8} {P S : Nat → Int} (hn : (32 : UInt8) ∉ nm) : ∀ k, cutB 32 (prtL nm P S k) = nm :: wdsL P S k
 | 0 => cutB_no hn
 | k + 1 => by
  have e : prtL nm P S (k + 1) = prtL nm P S k ++ 32 :: (dec (P k) ++ 32 :: dec (S k)) := by
   rw [show prtL nm P S (k + 1) = prtL nm P S k ++ [32] ++ dec (P k) ++ [32] ++ dec (S k) from rfl]; simp
  rw [e, cutB_app, cut_prt hn k, cutB_at (dec_not (by decide) (by decide)), cutB_no (dec_not (by decide) (by decide))]
  rfl
theorem wdsL_get {P S : Nat → Int} : ∀ (k i : Nat), i < k → (wdsL P S k)[2 * i]? = some (dec (P i)) ∧ (wdsL P S k)[2 * i + 1]? = some (dec (S i))
 | 0, i, h => by omega
 | k + 1, i, h => by
  have l := wdsL_len P S k
  unfold wdsL
  by_cases e : i = k
  ·subst e
   rw [List.getElem?_append_right (by omega), List.getElem?_append_right (by omega), l, Nat.sub_self, show 2 * i + 1 - 2 * i = 1 by omega]
   exact ⟨rfl, rfl⟩
  ·have := wdsL_get (P := P) (S := S) k i (by omega)
   rw [List.getElem?_append_left (by omega), List.getElem?_append_left (by omega)]
   exact this
theorem wdA_P {nm : List UInt8} {P S : Nat → Int} {i : Nat} (h : i < 12) : wdA (nm :: wdsL P S 12) (1 + 2 * i) = dec (P i) := by
 unfold wdA
 rw [Nat.add_comm, List.getElem?_cons_succ, (wdsL_get 12 i h).1]; rfl
theorem wdA_S {nm : List UInt8} {P S : Nat → Int} {i : Nat} (h : i < 12) : wdA (nm :: wdsL P S 12) (2 + 2 * i) = dec (S i) := by
 unfold wdA
 rw [show 2 + 2 * i = (2 * i + 1) + 1 by omega, List.getElem?_cons_succ, (wdsL_get 12 i h).2]; rfl
theorem dec_len3 {n : Int} (h : -48 ≤ n ∧ n ≤ 48) : (dec n).length ≤ 3 := by
 have := (digs_len (n := n.natAbs) 2 (by decide)).2 (by omega)
 by_cases a : n < 0
 ·rw [dec_neg a, List.length_cons]; omega
 ·rw [dec_nn a]; omega
theorem prtL_len3 {nm : List UInt8} {P S : Nat → Int} (o : Okt P S) : ∀ k, k ≤ 12 → (prtL nm P S k).length ≤ nm.length + 8 * k
 | 0, _ => by simp [prtL]
 | k + 1, h => by
  have := prtL_len3 (nm := nm) o k (by omega)
  have a := dec_len3 (o.p k (by omega))
  have b := dec_len3 (o.s k (by omega))
  unfold prtL
  simp
  omega
theorem name_32 {nm : List UInt8} (h : nameB ⟨nm.toArray⟩ = true) : (32 : UInt8) ∉ nm ∧ nm.length ≤ 12 := by
 obtain ⟨_, h2, _, h4⟩ := nameB_true.1 h
 rw [tx_size] at h2
 refine ⟨fun q => ?_, h2⟩
 obtain ⟨i, hi, e⟩ := List.getElem_of_mem q
 have := h4 i (by rw [tx_size]; exact hi)
 unfold bN at this
 rw [tx_toList, List.getElem?_eq_getElem hi, e] at this
 exact absurd this (by decide)
theorem back {nm : List UInt8} {P S : Nat → Int} (z : chkT ⟨nm.toArray⟩ P S = 0) : prsT cmm (prtL nm P S 12) = (tmL nm P S, 0) := by
 obtain ⟨o, hnm⟩ := okt z
 obtain ⟨n32, nl⟩ := name_32 hnm
 have pl := prtL_len3 (nm := nm) o 12 (by omega)
 have ct := cut_prt (P := P) (S := S) n32 12
 unfold prsT
 rw [if_neg (by omega), ct, if_neg (by rw [List.length_cons, wdsL_len]; decide)]
 have cP : ∀ i, i < 12 → cmm (wdA (nm :: wdsL P S 12) (1 + 2 * i)) = (P i, true) := fun i hi => by
  rw [wdA_P hi]; exact cmm_is.2 ⟨rfl, by have := o.p i hi; omega⟩
 have cS : ∀ i, i < 12 → cmm (wdA (nm :: wdsL P S 12) (2 + 2 * i)) = (S i, true) := fun i hi => by
  rw [wdA_S hi]; exact cmm_is.2 ⟨rfl, by have := o.s i hi; omega⟩
 have ok : (List.range 12).all (okR cmm (nm :: wdsL P S 12)) = true := List.all_eq_true.2 fun i hi => by
  unfold okR; rw [cP i (List.mem_range.1 hi), cS i (List.mem_range.1 hi)]; rfl
 have w0 : wdA (nm :: wdsL P S 12) 0 = nm := rfl
 have eq : ∀ i, i < 12 → pR cmm (nm :: wdsL P S 12) i = P i ∧ sR cmm (nm :: wdsL P S 12) i = S i := fun i hi => by
  unfold pR sR; rw [cP i hi, cS i hi]; exact ⟨rfl, rfl⟩
 rw [if_pos ok, w0, chkT_congr eq, tmL_congr eq, if_neg (by rw [z]; decide)]
theorem walk4 {lim : Nat} {h : Heap} {C : List Value} {nm : List UInt8} {P S : Nat → Int} (t : Tm C ⟨nm.toArray⟩ P S) (hR : ∀ i, i < 12 → R64 (P i) ∧ R64 (S i)) (e : Er h) (sp : SlU h (.slice (some ⟨0, 0, none⟩) 3 1) [2, 3, 5]) :
  E.call 21 lim 4 [.agg C.toArray] h = some (.bool true, h) := by
 refine call1 fn4 rfl (by simp [ef4]) ?_
 have aw : ∀ L, E.call 20 h.length 5 [] (h.freeze ++ L) = some (.bool true, h.freeze ++ L) := fun L => awake (d := 11) ((Sl_freeze.2 sp).app L)
 have k8 := fun H : Heap => c8 (d := 19) (lim := h.length) (h := H) t
 have tk := t.take
 have tl := t.len
 by_cases hs : nm.length ≤ 30
 ·have k9 := fun H : Heap => c9 (d := 15) (lim := h.length) (h := H) t (by omega) hR
  have k12 := fun H : Heap => c12 (d := 15) (lim := h.length) (h := H) t (by omega) hR
  have k10 := fun H : Heap => c10 (d := 15) (lim := h.length) (h := H) t
  have k11 := fun H : Heap => c11 (d := 16) (lim := h.length) (h := H) t (by rw [tx_size]; omega)
  by_cases z : chkT ⟨nm.toArray⟩ P S = 0
  ·have k6 : ∀ L, E.call 20 h.length 6 [tx (prtL nm P S 12)] (h.freeze ++ L) = some (.tuple #[.agg C.toArray, i64 0], h.freeze ++ L) := fun L => by
    have := c6 (d := 15) (lim := h.length) (s := prtL nm P S 12) (e.freeze.app (L := L))
    rw [back z, ← t.eq] at this
    exact this
   rw [z] at k9 k10 k11
   simp only [if_true] at k9
   have zs := zT_spl tl
   have sm := tmL_same nm P S
   rw [← t.eq] at sm
   have to : allOne C = true := by rw [t.eq]; exact tmL_one _ _ _
   simp only [zT] at zs
   simp only [kT] at sm
   generalize prtL nm P S 12 = q at *
   simp [ef4, aw, k8, hs, tk, tl, k9, k10, k11, k6, k12, zs, to, sm]
  ·simp only [if_neg z] at k9
   simp [ef4, aw, k8, hs, tk, tl, k9, k10, k11, z]
 ·simp [ef4, aw, k8, hs, tk, tl]
end M
end Go.Abs
