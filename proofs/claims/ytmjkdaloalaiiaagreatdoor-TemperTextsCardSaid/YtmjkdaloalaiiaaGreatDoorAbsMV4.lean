--
import Derived.Test.YtmjkdaloalaiiaaGreatDoorAbsMVM
set_option linter.unusedSimpArgs false
set_option linter.unusedVariables false
namespace Go.Abs
namespace M
set_option maxRecDepth 100000
set_option maxHeartbeats 0
def dgs (s : List UInt8) (fr i : Nat) : List UInt8 := (s.take i).drop fr
theorem dgs_step {s : List UInt8} {fr i : Nat} (h : i < s.length) (h2 : fr ≤ i) : dgs s fr (i + 1) = dgs s fr i ++ [s[i]] := by
 unfold dgs
 rw [List.take_succ_eq_append_getElem h, List.drop_append_of_le_length (by rw [List.length_take]; omega)]
def DgA (s : List UInt8) (fr i : Nat) : Prop := (dgs s fr i).all isDg = true
theorem dgs_len {s : List UInt8} {fr i : Nat} (h : i ≤ s.length) : (dgs s fr i).length = i - fr := by
 unfold dgs; rw [List.length_drop, List.length_take]; omega
theorem dgs_end {s : List UInt8} {fr : Nat} : dgs s fr s.length = s.drop fr := by unfold dgs; rw [List.take_length]
theorem dgs_start {s : List UInt8} {fr : Nat} : dgs s fr fr = [] := by unfold dgs; rw [List.drop_of_length_le (by rw [List.length_take]; omega)]
theorem dgA_start {s : List UInt8} {fr : Nat} : DgA s fr fr := by unfold DgA; rw [dgs_start]; rfl
theorem valD_18 {l : List UInt8} (h : l.all isDg = true) (hl : l.length ≤ 18) : valD l < 1000000000000000000 :=
 Nat.lt_of_lt_of_le (valD_lt l h) (Nat.pow_le_pow_right (n := 10) (by decide) hl)
theorem rdn_bad {k : Nat} {s : List UInt8} (h : (unsg s).all isDg = false) : rdn k s = (0, false) := by
 unfold rdn
 split
 ·rfl
 ·rw [if_neg (by rw [h]; decide)]
theorem rdn_short {k : Nat} {s : List UInt8} (h : (unsg s).length = 0 ∨ k < (unsg s).length) : rdn k s = (0, false) := by
 unfold rdn; rw [if_pos h]
theorem rdn_ok {k : Nat} {s : List UInt8} (h : 0 < (unsg s).length) (h2 : (unsg s).length ≤ k) (h3 : (unsg s).all isDg = true) : rdn k s = (nub s, decide (dec (nub s) = s)) := by
 unfold rdn; rw [if_neg (by omega), if_pos h3]
theorem unsg_minus {s : List UInt8} (h : s[0]? = some 45) : unsg s = s.drop 1 := by
 rcases s with _ | ⟨c, r⟩
 ·cases h
 ·simp at h; subst h; rfl
theorem unsg_plain {s : List UInt8} {c : UInt8} (h : s[0]? = some c) (n : c ≠ 45) : unsg s = s.drop 0 := by
 rcases s with _ | ⟨c, r⟩
 ·cases h
 ·simp at h; subst h; simp [unsg, n]
theorem byte_ne {c : UInt8} (n : c ≠ 45) : ¬ (c.toNat : Int) = 45 := fun e => n (UInt8.toNat_inj.1 (by show c.toNat = 45; omega))
theorem nub_minus {s : List UInt8} (h : s[0]? = some 45) : nub s = -(valD (unsg s) : Int) := by
 unfold nub; rw [if_pos (by rw [List.head?_eq_getElem?]; exact h)]
theorem nub_plain {s : List UInt8} {c : UInt8} (h : s[0]? = some c) (n : c ≠ 45) : nub s = (valD (unsg s) : Int) := by
 unfold nub; rw [if_neg (by rw [List.head?_eq_getElem?, h]; exact fun q => n (Option.some.inj q))]
theorem u8_sub {c : UInt8} (h : isDg c = true) : IntKind.i64.wrap (IntKind.u8.wrap ((c.toNat : Int) - 48)) = ((c.toNat - 48 : Nat) : Int) := by
 have hc : 48 ≤ c.toNat ∧ c.toNat ≤ 57 := by simpa [isDg] using h
 have : IntKind.u8.wrap ((c.toNat : Int) - 48) = ((c.toNat - 48 : Nat) : Int) := by
  unfold IntKind.wrap
  simp [IntKind.signed, IntKind.bits]
  omega
 rw [this, wrapR (by unfold R64; omega)]
theorem c20_1 {d lim k : Nat} {h : Heap} {s : List UInt8} {c : UInt8} (hk : k ≤ 18) (hs : s.length < 1000000) (h0 : s[0]? = some c) (hc : c = 45) : E.call (d + 3) lim 20 [tx s, i64 (k : Int)] h = some (.tuple #[i64 (rdn k s).1, .bool (rdn k s).2], h) := by
 refine call1 fn20 rfl (by simp [ef20]) ?_
 have p0 : 0 < s.length := (List.getElem?_eq_some_iff.1 h0).1
 obtain rfl : s[0] = c := by rw [List.getElem?_eq_getElem p0] at h0; exact Option.some.inj h0
 have un : unsg s = s.drop 1 := unsg_minus (hc ▸ h0)
 have ul : (unsg s).length = s.length - 1 := by rw [un, List.length_drop]
 have nb : nub s = -(valD (unsg s) : Int) := nub_minus (hc ▸ h0)
 have cc : (s[0].toNat : Int) = 45 := by rw [hc]; rfl
 have i18 : ¬ (18 : Int) < (k : Int) := by omega
 have i18' : (k : Int) ≤ 18 := by omega
 have k1 : IntKind.i64.wrap (1 + (k : Int)) = ((k + 1 : Nat) : Int) := by rw [wrapR (by unfold R64; omega)]; omega
 by_cases e0 : s.length = 1
 ·have e0' : (s.length : Int) = 1 := by omega
  have := rdn_short (k := k) (.inl (by omega : (unsg s).length = 0))
  simp [ef20, p0, cc, e0', this]
  try omega
 have e0' : ¬ (s.length : Int) = 1 := by omega
 by_cases e1 : k + 1 < s.length
 ·have e1' : ((k + 1 : Nat) : Int) < (s.length : Int) := by omega
  have := rdn_short (k := k) (.inr (by omega : k < (unsg s).length))
  generalize (k + 1 : Nat) = kf at *
  simp [ef20, p0, cc, e0', e0', k1, e1, e1', this]
  try omega
 have e1' : ¬ ((k + 1 : Nat) : Int) < (s.length : Int) := by omega
 have e1'' : (s.length : Int) ≤ ((k + 1 : Nat) : Int) := by omega
 have e1n : s.length ≤ k + 1 := by omega
 generalize hkf : (k + 1 : Nat) = kf at *
 simp [ef20, p0, cc, e0', e0', k1, e1, e1', e1'', e1n, i18, i18']
 refine wpC_loop (fun y st => ∃ i : Nat, y = s.length - i ∧ 1 ≤ i ∧ i ≤ s.length ∧ DgA s 1 i ∧ st = ⟨[(0, tx s), (6, i64 (valD (dgs s 1 i) : Nat)), (7, i64 1), (8, i64 (i : Nat))], h.freeze⟩) (s.length - 1) (by show s.length - 1 < 2 ^ 64; omega) ?_ ?_
 ·simp [St.tidy]
  exact ⟨1, by omega, by omega, by omega, dgA_start, by rw [dgs_start]; rfl, rfl⟩
 ·rintro y hy _ ⟨i, rfl, hi0, hi, ha', rfl⟩
  have ha : (dgs s 1 i).all isDg = true := ha'
  have v18 := valD_18 ha (by rw [dgs_len hi]; omega)
  by_cases hlt : i < s.length
  ·have w1' : IntKind.i64.wrap ((i : Int) + 1) = ((i + 1 : Nat) : Int) := by rw [wrapR (by unfold R64; omega)]; rfl
   have gi : s[i]? = some s[i] := List.getElem?_eq_getElem hlt
   have st := dgs_step hlt hi0
   have nlt : ¬ s.length ≤ i := by omega
   by_cases hd : isDg s[i] = true
   ·have al : (dgs s 1 (i + 1)).all isDg = true := by rw [st, List.all_append, ha, List.all_cons, hd]; rfl
    have vs := valD_snoc (dgs s 1 i) s[i]
    rw [← st] at vs
    have hc : 48 ≤ s[i].toNat ∧ s[i].toNat ≤ 57 := by simpa [isDg] using hd
    have a1 := u8_sub hd
    have v19 := valD_18 al (by rw [dgs_len (by omega)]; omega)
    generalize valD (dgs s 1 i) = v at *
    generalize hv2 : valD (dgs s 1 (i + 1)) = v2 at *
    have a2 : IntKind.i64.wrap (10 * (v : Int)) = ((10 * v : Nat) : Int) := by rw [wrapR (by unfold R64; omega)]; rfl
    have a3 : IntKind.i64.wrap (((10 * v : Nat) : Int) + ((s[i].toNat - 48 : Nat) : Int)) = (v2 : Int) := by rw [wrapR (by unfold R64; omega), vs]; omega
    generalize ((10 * v : Nat) : Int) = tv at *
    generalize ((s[i].toNat - 48 : Nat) : Int) = tb at *
    simp [hlt, nlt, c41u, hd, a1, a2, a3, w1', St.tidy]
    exact ⟨s.length - (i + 1), by omega, i + 1, rfl, by omega, by omega, al, by rw [hv2], by omega⟩
   ·have hd : isDg s[i] = false := by simpa using hd
    have bad : (unsg s).all isDg = false := by
     rw [un, Bool.eq_false_iff]
     intro q
     have := List.all_eq_true.1 q s[i] (List.mem_of_getElem? (i := i - 1) (by rw [List.getElem?_drop, ← gi]; congr 1; omega))
     rw [hd] at this; cases this
    have := rdn_bad (k := k) bad
    simp [hlt, nlt, c41u, hd, this]
  ·obtain rfl : i = s.length := by omega
   rw [dgs_end, ← un] at *
   have ok := rdn_ok (k := k) (s := s) (by omega) (by omega) ha
   have r : R64 (nub s) := by rw [nb]; unfold R64; omega
   have cd := c32 (d := d) (lim := h.length) (h := h.freeze) r
   generalize valD (unsg s) = v at *
   have wn : IntKind.i64.wrap (-(v : Int)) = -(v : Int) := wrapR (by unfold R64; omega)
   rw [nb] at cd
   rw [nb] at ok
   simp [cd, ok, wn]
theorem c20_0 {d lim k : Nat} {h : Heap} {s : List UInt8} {c : UInt8} (hk : k ≤ 18) (hs : s.length < 1000000) (h0 : s[0]? = some c) (hc : c ≠ 45) : E.call (d + 3) lim 20 [tx s, i64 (k : Int)] h = some (.tuple #[i64 (rdn k s).1, .bool (rdn k s).2], h) := by
 refine call1 fn20 rfl (by simp [ef20]) ?_
 have p0 : 0 < s.length := (List.getElem?_eq_some_iff.1 h0).1
 obtain rfl : s[0] = c := by rw [List.getElem?_eq_getElem p0] at h0; exact Option.some.inj h0
 have un : unsg s = s.drop 0 := unsg_plain h0 hc
 have ul : (unsg s).length = s.length - 0 := by rw [un, List.length_drop]
 have nb : nub s = (valD (unsg s) : Int) := nub_plain h0 hc
 have cc : ¬ (s[0].toNat : Int) = 45 := byte_ne hc
 have i18 : ¬ (18 : Int) < (k : Int) := by omega
 have i18' : (k : Int) ≤ 18 := by omega
 have k1 : IntKind.i64.wrap ((k : Int)) = ((k + 0 : Nat) : Int) := by rw [wrapR (by unfold R64; omega)]; omega
 by_cases e0 : s.length = 0
 ·have e0' : (s.length : Int) = 0 := by omega
  have := rdn_short (k := k) (.inl (by omega : (unsg s).length = 0))
  omega
 have e0' : ¬ (s.length : Int) = 0 := by omega
 by_cases e1 : k + 0 < s.length
 ·have e1' : ((k + 0 : Nat) : Int) < (s.length : Int) := by omega
  have := rdn_short (k := k) (.inr (by omega : k < (unsg s).length))
  generalize (k + 0 : Nat) = kf at *
  simp [ef20, p0, cc, e0', List.ne_nil_of_length_pos p0, k1, e1, e1', this]
  try omega
 have e1' : ¬ ((k + 0 : Nat) : Int) < (s.length : Int) := by omega
 have e1'' : (s.length : Int) ≤ ((k + 0 : Nat) : Int) := by omega
 have e1n : s.length ≤ k + 0 := by omega
 generalize hkf : (k + 0 : Nat) = kf at *
 simp [ef20, p0, cc, e0', List.ne_nil_of_length_pos p0, k1, e1, e1', e1'', e1n, i18, i18']
 refine wpC_loop (fun y st => ∃ i : Nat, y = s.length - i ∧ 0 ≤ i ∧ i ≤ s.length ∧ DgA s 0 i ∧ st = ⟨[(0, tx s), (6, i64 (valD (dgs s 0 i) : Nat)), (7, i64 0), (8, i64 (i : Nat))], h.freeze⟩) (s.length - 0) (by show s.length - 0 < 2 ^ 64; omega) ?_ ?_
 ·simp [St.tidy]
  exact ⟨0, by omega, by omega, dgA_start, by rw [dgs_start]; rfl, rfl⟩
 ·rintro y hy _ ⟨i, rfl, hi0, hi, ha', rfl⟩
  have ha : (dgs s 0 i).all isDg = true := ha'
  have v18 := valD_18 ha (by rw [dgs_len hi]; omega)
  by_cases hlt : i < s.length
  ·have w1' : IntKind.i64.wrap ((i : Int) + 1) = ((i + 1 : Nat) : Int) := by rw [wrapR (by unfold R64; omega)]; rfl
   have gi : s[i]? = some s[i] := List.getElem?_eq_getElem hlt
   have st := dgs_step hlt hi0
   have nlt : ¬ s.length ≤ i := by omega
   by_cases hd : isDg s[i] = true
   ·have al : (dgs s 0 (i + 1)).all isDg = true := by rw [st, List.all_append, ha, List.all_cons, hd]; rfl
    have vs := valD_snoc (dgs s 0 i) s[i]
    rw [← st] at vs
    have hc : 48 ≤ s[i].toNat ∧ s[i].toNat ≤ 57 := by simpa [isDg] using hd
    have a1 := u8_sub hd
    have v19 := valD_18 al (by rw [dgs_len (by omega)]; omega)
    generalize valD (dgs s 0 i) = v at *
    generalize hv2 : valD (dgs s 0 (i + 1)) = v2 at *
    have a2 : IntKind.i64.wrap (10 * (v : Int)) = ((10 * v : Nat) : Int) := by rw [wrapR (by unfold R64; omega)]; rfl
    have a3 : IntKind.i64.wrap (((10 * v : Nat) : Int) + ((s[i].toNat - 48 : Nat) : Int)) = (v2 : Int) := by rw [wrapR (by unfold R64; omega), vs]; omega
    generalize ((10 * v : Nat) : Int) = tv at *
    generalize ((s[i].toNat - 48 : Nat) : Int) = tb at *
    simp [hlt, nlt, c41u, hd, a1, a2, a3, w1', St.tidy]
    exact ⟨s.length - (i + 1), by omega, i + 1, rfl, by omega, al, by rw [hv2], by omega⟩
   ·have hd : isDg s[i] = false := by simpa using hd
    have bad : (unsg s).all isDg = false := by
     rw [un, Bool.eq_false_iff]
     intro q
     have := List.all_eq_true.1 q s[i] (List.mem_of_getElem? (i := i - 0) (by rw [List.getElem?_drop, ← gi]; congr 1; omega))
     rw [hd] at this; cases this
    have := rdn_bad (k := k) bad
    simp [hlt, nlt, c41u, hd, this]
  ·obtain rfl : i = s.length := by omega
   rw [dgs_end, ← un] at *
   have ok := rdn_ok (k := k) (s := s) (by omega) (by omega) ha
   have r : R64 (nub s) := by rw [nb]; unfold R64; omega
   have cd := c32 (d := d) (lim := h.length) (h := h.freeze) r
   generalize valD (unsg s) = v at *
   have wn : IntKind.i64.wrap (-(v : Int)) = -(v : Int) := wrapR (by unfold R64; omega)
   rw [nb] at cd
   rw [nb] at ok
   simp [cd, ok, wn]
theorem c20 {d lim k : Nat} {h : Heap} {s : List UInt8} (hk : k ≤ 18) (hs : s.length < 1000000) : E.call (d + 3) lim 20 [tx s, i64 (k : Int)] h = some (.tuple #[i64 (rdn k s).1, .bool (rdn k s).2], h) := by
 rcases e : s[0]? with _ | c
 ·obtain rfl : s = [] := by
   rcases s with _ | ⟨c, r⟩
   ·rfl
   ·cases e
  refine call1 fn20 rfl (by simp [ef20]) ?_
  simp [ef20, rdn, unsg]
 ·by_cases hc : c = 45
  ·exact c20_1 hk hs e hc
  ·exact c20_0 hk hs e hc
end M
end Go.Abs
