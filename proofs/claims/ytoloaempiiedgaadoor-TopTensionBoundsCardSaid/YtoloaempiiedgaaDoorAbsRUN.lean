--
import Derived.Test.YtoloaempiiedgaaDoorAbsRUM
set_option linter.unusedSimpArgs false
set_option linter.unusedVariables false
namespace Go.Abs
namespace R
set_option maxRecDepth 100000
set_option maxHeartbeats 0
noncomputable def ten (wl : List Wi) (t : Int) (u : Un) : XR := (tenL wl u.sd (fL u t), tenH wl u.sd (fH u t))
noncomputable def mapU (f : Un → XR) (l : List Un) : List XR := l.map f
theorem mapU_len (f : Un → XR) (l : List Un) : (mapU f l).length = l.length := by simp [mapU]
theorem mapU_at {f : Un → XR} {l : List Un} {i : Nat} (h : i < l.length) : atR (mapU f l) i = f (atN l i) := by
 rw [← atR_get (by rw [mapU_len]; exact h), ← atN_get h]; simp [mapU]
theorem mapU_snoc {f : Un → XR} {l : List Un} {i : Nat} (h : i < l.length) : cS encR ((mapU f l).take i) ++ [i64 (f (atN l i)).1, i64 (f (atN l i)).2] = cS encR ((mapU f l).take (i + 1)) := by
 have hl : i < (mapU f l).length := by rw [mapU_len]; exact h
 rw [List.take_succ_eq_append_getElem hl, atR_get hl, mapU_at h]
 simp [cS, encR]
theorem mapU_tk {f : Un → XR} {l : List Un} {i : Nat} (h : i ≤ l.length) : (cS encR ((mapU f l).take i)).length = i * 2 := by
 rw [cR_len, List.length_take, mapU_len]; omega
theorem mapU_all {f : Un → XR} {l : List Un} : (mapU f l).take l.length = mapU f l := by rw [List.take_of_length_le]; rw [mapU_len]; exact Nat.le_refl _
abbrev newV (n : Nat) (l : List XR) : Value := if l.length = 0 then .slice none 0 0 else .slice (some ⟨n, 0, none⟩) l.length 2
abbrev newK (l : List XR) : List (Option Blk) := if l.length = 0 then [] else [some ⟨cS encR l, true⟩]
theorem c45a {d lim : Nat} {h : Heap} {v w : Value} {wl : List Wi} {l : List Un} {t : Int} (sp : Pr h) (s : SlW h v wl) (q : SlN h w l) (hwl : wl.length ≤ 1000) (hnm : Nms wl) (he : (stE t wl l).2 ≠ 0) :
  E.call (d + 9) lim 45 [stV t v w] h = some (.tuple #[.slice none 0 0, i64 (stE t wl l).2], h) := by
 have k21 := fun lim L => c40 (d := d) (lim := lim) (t := t) ((Sl_freeze.2 sp).app L) ((Sl_freeze.2 s).app L) ((Sl_freeze.2 q).app L) hwl hnm
 refine call1 fn45 rfl (by simp [ef45]) ?_
 simp [ef45, k21, he]
theorem c45 {d lim : Nat} {h : Heap} {v w : Value} {wl : List Wi} {l : List Un} {t : Int} (sp : Pr h) (s : SlW h v wl) (q : SlN h w l) (hwl : wl.length ≤ 1000) (hnm : Nms wl) (he : (stE t wl l).2 = 0) :
  E.call (d + 9) lim 45 [stV t v w] h = some (.tuple #[newV h.length (mapU (ten wl t) l), i64 0], h ++ newK (mapU (ten wl t) l)) := by
 have O := StOk.of he
 have rs := s.rules2
 have r := q.rules2
 have so := s.own
 have qo := q.own
 have l90 := O.few
 have k21 := fun lim L => c40 (d := d) (lim := lim) (t := t) ((Sl_freeze.2 sp).app L) ((Sl_freeze.2 s).app L) ((Sl_freeze.2 q).app L) hwl hnm
 have k72 := fun lim L i hi => c47 (d := d + 1) (lim := lim) (i := i) ((Sl_freeze.2 sp).app L) ((Sl_freeze.2 s).app L) ((Sl_freeze.2 q).app L) O hi
 refine call_pure fn45 rfl (by simp [ef45]) ?_
 unfold newV newK
 rw [mapU_len]
 simp [ef45, k21, he, r]
 refine wpC_loop (fun y st => ∃ i, y = l.length - i ∧ i ≤ l.length ∧ st = ⟨[(1, .pointer (some ⟨h.length, 0, none⟩)), (6, if i = 0 then .slice none 0 0 else .slice (some ⟨h.length + 1, 0, none⟩) i 2), (18, i64 (l.length : Int)), (19, i64 (i : Nat))],
  h.freeze ++ (some ⟨[i64 t, v, w], true⟩ :: if i = 0 then [] else [some ⟨cS encR ((mapU (ten wl t) l).take i), true⟩])⟩) l.length (by show l.length < 2 ^ 64; omega) ?_ ?_
 ·simp [St.tidy, collect_box, so, qo, rs, r]
  exact ⟨0, by omega, by omega, ⟨rfl, rfl⟩, rfl⟩
 ·rintro y hy _ ⟨i, rfl, hi, rfl⟩
  by_cases hlt : i < l.length
  ·have w1' := w1 (i := i) (by omega)
   simp only [W] at w1'
   have hlti : (i : Int) < l.length := by omega
   have km := fun lim L => k72 lim L i hlt
   have sn := mapU_snoc (f := ten wl t) hlt
   have len := mapU_tk (f := ten wl t) hi
   have pl := cR_plain ((mapU (ten wl t) l).take i)
   rcases Nat.eq_zero_or_pos i with z | z
   ·subst z
    rw [show cS encR ((mapU (ten wl t) l).take 0) = [] from rfl, List.nil_append] at sn
    have l0 : 0 < l.length := by omega
    simp only [Int.ofNat_zero] at km
    simp [l0, hlt, hlti, km, ten, E.append, E.added, Value.oneCell', maxLen, zeros, St.tidy, collect_box, so, qo, rs, r]
    exact ⟨l.length - 1, by omega, 1, by omega, by omega, ⟨by rw [if_neg (by omega)], by omega⟩, by rw [if_neg (by omega)]; exact congrArg (fun c => [some (Blk.mk c true)]) sn⟩
   ·have zi : i ≠ 0 := by omega
    simp [hlt, hlti, zi, km, len, ten, E.append, E.added, Value.oneCell', maxLen, zeros, St.tidy, collect_box, so, qo, rs, r, w1', pl, Nat.add_assoc]
    exact ⟨⟨by omega, by omega⟩, l.length - (i + 1), by omega, i + 1, by omega, by omega, ⟨by rw [if_neg (by omega)], by omega⟩, by rw [if_neg (by omega)]; exact congrArg (fun c => [some (Blk.mk c true)]) sn⟩
  ·obtain rfl : i = l.length := by omega
   have pl := cR_plain (mapU (ten wl t) l)
   rw [mapU_all]
   rcases Nat.eq_zero_or_pos l.length with z | z
   ·have el : l = [] := List.eq_nil_of_length_eq_zero z
    subst el
    simp
   ·have zi : l.length ≠ 0 := by omega
    have ne : l ≠ [] := fun e => zi (by rw [e]; rfl)
    simp [zi, ne, pl]
end R
end Go.Abs
namespace Go.Abs
namespace R
set_option maxRecDepth 100000
set_option maxHeartbeats 0
theorem wlen {n : Nat} (h : n ≤ 1000) : IntKind.wrap .i64 ((n : Int) - 1) = (n : Int) - 1 := wrap_eq (by omega) (by omega)
end R
end Go.Abs
namespace Go.Abs
namespace R
set_option maxRecDepth 100000
set_option maxHeartbeats 0
end R
end Go.Abs
namespace Go.Abs
namespace R
set_option maxRecDepth 100000
set_option maxHeartbeats 0
end R
end Go.Abs
namespace Go.Abs
namespace R
set_option maxRecDepth 100000
set_option maxHeartbeats 0
theorem ownW {h : Heap} {l : List Wi} (A : List (Option Blk)) {k : Nat} (hk : A[k]? = some (some ⟨cS encW l, true⟩)) : SlW (h.freeze ++ A) (.slice (some ⟨h.length + k, 0, none⟩) l.length 4) l :=
 Sl_own (f := encW) (es := 4) (fun _ => rfl) (by rw [hget_base (by simp), hk]; rfl) rfl
theorem ownN {h : Heap} {l : List Un} (A : List (Option Blk)) {k : Nat} (hk : A[k]? = some (some ⟨cS encN l, true⟩)) : SlN (h.freeze ++ A) (.slice (some ⟨h.length + k, 0, none⟩) l.length 10) l :=
 Sl_own (f := encN) (es := 10) (fun _ => rfl) (by rw [hget_base (by simp), hk]; rfl) rfl
abbrev qB (t : Int) (v w : Value) : Option Blk := some ⟨[i64 t, v, w], true⟩
abbrev qW (wl : List Wi) : Option Blk := some ⟨cS encW wl, true⟩
abbrev qN (l : List Un) : Option Blk := some ⟨cS encN l, true⟩
theorem Sl_one {es : Nat} {h : Heap} {v : Value} {n : Nat} {cs : List Value} (s : Sl es h v n cs) : Value.oneCell' v = true := by
 rcases s.low with rfl | ⟨bv, ov, mv, tv, rfl, hbv⟩ <;> rfl
end R
end Go.Abs
