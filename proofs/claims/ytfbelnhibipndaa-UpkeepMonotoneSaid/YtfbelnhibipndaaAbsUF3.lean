/- Chapter 7: climates: one more reading; the law. -/
import Derived.Test.YtfbelnhibipndaaAbsUF2
set_option linter.unusedSimpArgs false
set_option linter.unusedVariables false
namespace Go.Abs
namespace U
set_option maxRecDepth 100000
set_option maxHeartbeats 0
theorem c69 {d lim b n : Nat} {h : Heap} {l : List P2} {rw : Bool} (hb : h.get b = some ⟨cS enc2 l, rw⟩) (hn : n = l.length) (hl : l.length ≤ 100000) :
    E.call (d + 1) lim 69 [.slice (some ⟨b, 0, none⟩) n 2] h = some (.slice (some ⟨h.length, 0, none⟩) l.length 2, h ++ [some ⟨cS enc2 l, true⟩]) := by
  have s : Sl2 h (.slice (some ⟨b, 0, none⟩) n 2) l := Sl_own (f := enc2) (es := 2) (fun _ => rfl) hb hn
  refine call_pure fn69 rfl (by simp [ef69]) ?_
  have A1 := fun (hn : l.length ≠ 0) => app_some (bytes := 16) (b := h.length) (H := h.freeze ++ [some ⟨[], true⟩]) ((Sl_freeze.2 s).app _) hn (by omega) (by rw [hget_base0 (by simp)]; rfl) (c2_one l) (by omega) (by omega)
  have A0 := fun (hn : l.length = 0) => app_none (es := 2) (bytes := 16) (b := h.length) (H := h.freeze ++ [some ⟨[], true⟩]) (cs := cS enc2 l) (by have := (Sl_freeze.2 s).app [some ⟨[], true⟩]; rwa [hn] at this) (by omega)
  have cp := c2_plain l
  subst hn
  rcases Nat.eq_zero_or_pos l.length with hz | hz
  · have e0 : cS enc2 l = [] := by rw [List.eq_nil_of_length_eq_zero hz]; rfl
    simp only [hz] at A0
    simp [ef69, zeros, fillL, A0, hz, e0, Blk_addrs_nil, Blk_ren_nil]
  · have n0 : l.length ≠ 0 := by omega
    simp [ef69, zeros, fillL, A1, n0, cp]
theorem enc_app (l : List P2) (c : P2) : cS enc2 l ++ [i64 c.1, i64 c.2] = cS enc2 (l ++ [c]) := by simp [cS, enc2]
def addV (l : List P2) (b : Nat) : Value := .tuple #[if chkC l = 0 then .slice (some ⟨b, 0, none⟩) l.length 2 else .slice none 0 0, i64 (chkC l)]
def addK (l : List P2) : List (Option Blk) := if chkC l = 0 then [some ⟨cS enc2 l, true⟩] else []
theorem c21 {d lim b n : Nat} {h : Heap} {l : List P2} {c : P2} {rw : Bool} (hb : h.get b = some ⟨cS enc2 l, rw⟩) (hn : n = l.length) (hl : l.length ≤ 10000) :
    E.call (d + 5) lim 21 [.slice (some ⟨b, 0, none⟩) n 2, v2 c] h = some (addV (l ++ [c]) h.length, h ++ addK (l ++ [c])) := by
  obtain ⟨x, y⟩ := c
  have hbl := Heap.get_lt hb
  have hb2 : Heap.get (Heap.freeze (h.freeze ++ ([some ⟨[i64 x, i64 y], true⟩] : List (Option Blk)))) b = some ⟨cS enc2 l, false⟩ := hget_freeze (k := ⟨cS enc2 l, false⟩) (by rw [get_app (by simpa using hbl)]; exact hget_freeze hb)
  have K69 := fun lim => c69 (d := d + 3) (lim := lim) hb2 hn (by omega)
  have cl := c2_len l
  have ea := enc_app l (x, y)
  simp only at ea
  have cp := c2_plain (l ++ [(x, y)])
  have ll : (l ++ [(x, y)]).length = l.length + 1 := by simp
  refine call_pure fn21 rfl (by simp [ef21]) ?_
  unfold addV addK
  have K19 := fun (L : Heap) (b' n' lim : Nat) (hg : Heap.get (h.freeze ++ L) b' = some ⟨cS enc2 (l ++ [(x, y)]), true⟩) (hn : n' = (l ++ [(x, y)]).length) => c19 (d := d) (lim := lim) (Sl_own (f := enc2) (es := 2) (fun _ => rfl) hg hn)
  have A := fun (L : Heap) (b1 b2 : Nat) (h1 : Heap.get (h.freeze ++ L) b1 = some ⟨cS enc2 l, true⟩) (h2 : Heap.get (h.freeze ++ L) b2 = some ⟨[i64 x, i64 y], true⟩) => app_one (es := 2) (bytes := 16) (n := l.length) h1 cl h2 rfl (by omega) rfl (by omega) (by omega)
  generalize l ++ [(x, y)] = m at *
  rw [ea] at A
  by_cases q0 : chkC m = 0
  · simp [ef21, K69, A, K19, q0, fillL, zeros, ll, cp]
  · simp [ef21, K69, A, K19, q0, fillL, zeros, ll]
end U
end Go.Abs
