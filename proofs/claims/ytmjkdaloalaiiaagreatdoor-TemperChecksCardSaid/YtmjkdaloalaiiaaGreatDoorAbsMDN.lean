--
import Derived.Test.YtmjkdaloalaiiaaGreatDoorAbsMDM
set_option linter.unusedSimpArgs false
set_option linter.unusedVariables false
namespace Go.Abs
namespace M
set_option maxRecDepth 100000
set_option maxHeartbeats 0
def chkX (n m p q : Int) : Int :=
 if isNote n = true ∧ isNote m = true ∧ within p 1 16 = true ∧ within q 1 16 = true then
  (if m ≤ n then 9 else if facB p.toNat = true ∧ facB q.toNat = true then 0 else 15) else 2
theorem part_nat {n : Int} (h : within n 1 16 = true) : ∃ m : Nat, n = m ∧ (1 ≤ m ∧ m ≤ 16) := by
 unfold within at h
 simp at h
 exact ⟨n.toNat, by omega, by omega⟩
theorem c37 {d lim : Nat} {h : Heap} {n m p q : Int} : E.call (d + 2) lim 37 [pt n m p q] h = some (i64 (chkX n m p q), h) := by
 refine call1 fn37 rfl (by simp [ef37]) ?_
 by_cases hn : isNote n = true
 ·by_cases hm : isNote m = true
  ·by_cases hp : within p 1 16 = true
   ·by_cases hq : within q 1 16 = true
    ·by_cases hl : m ≤ n
     ·simp [ef37, c52, c56, hn, hm, hp, hq, hl, chkX]
     ·obtain ⟨x, rfl, hx⟩ := part_nat hp
      obtain ⟨y, rfl, hy⟩ := part_nat hq
      have k1 := fun lim hh => @c57 d lim hh x hx
      have k2 := fun lim hh => @c57 d lim hh y hy
      generalize facX x = X at *
      generalize facX y = Y at *
      obtain ⟨x1, x2, x3⟩ := X
      obtain ⟨y1, y2, y3⟩ := Y
      by_cases fx : facB x = true
      ·by_cases fy : facB y = true
       ·simp [ef37, c52, c56, hn, hm, hp, hq, hl, chkX, k1, k2, fx, fy, wpC_unroll, wpI_step, E_fuel, St.tidy, wrapL]
       ·simp [ef37, c52, c56, hn, hm, hp, hq, hl, chkX, k1, k2, fx, fy, wpC_unroll, wpI_step, E_fuel, St.tidy, wrapL]
      ·simp [ef37, c52, c56, hn, hm, hp, hq, hl, chkX, k1, k2, fx, wpC_unroll, wpI_step, E_fuel, St.tidy, wrapL]
    ·simp [ef37, c52, c56, hn, hm, hp, hq, chkX]
   ·simp [ef37, c52, c56, hn, hm, hp, chkX]
  ·simp [ef37, c52, c56, hn, hm, chkX]
 ·simp [ef37, c52, c56, hn, chkX]
def encN (P S : Nat → Int) (t n L H : Nat) : Prop := EncS (intX P S 48 n).1 (intX P S 48 n).2.1 (intX P S 48 n).2.2 12 t L H
theorem EncS.red {a b c e : Int} {t L H : Nat} (S : EncS a b c e t L H) (h : isPitch a b c e = true) : EncS (M.red a b c e a) (M.red a b c e b) (M.red a b c e c) (M.red a b c e e) t L H :=
 ⟨S.le, fun n hn => (enc_red h t n).1.trans (S.iff n hn), fun q => S.on ((enc_red h t L).2.1 q), fun q => S.off fun k => q ((enc_red h t L).2.2 k)⟩
theorem c58 {d lim : Nat} {h : Heap} {P S : Nat → Int} {b n t L H : Nat} {rw : Bool} (sp : SlU h (.slice (some ⟨0, 0, none⟩) 3 1) [2, 3, 5]) (hb : h.get b = some ⟨circK P S, rw⟩) (o : Okt P S) (hn : n ≤ 87) (ht : 1 ≤ t ∧ t ≤ 1000000000) (s : encN P S t n L H) :
  E.call (d + 6) lim 58 [.pointer (some ⟨b, 0, none⟩), i64 t, i64 n] h = some (rge (smallL L H) (smallH L H) (smallE L H), h) := by
 obtain ⟨q1, q2⟩ := int_ok o (lo := 48) (hi := n) (by omega) hn
 have hb2 : ∀ L, Heap.get (h.freeze ++ L) b = some ⟨circK P S, false⟩ := fun L => hget_append (hget_freeze hb)
 have hlt := Heap.get_lt hb
 have k86 := fun lim L => c53 (d := d + 2) (lim := lim) (hb2 L) (lo := 48) (hi := n) (by omega) (by omega)
 simp only [Int.cast_ofNat_Int] at k86
 have k87 := fun lim hh => c54 (d := d + 1) (lim := lim) (h := hh) q1
 have sp2 : ∀ L, SlU (h.freeze ++ L) (.slice (some ⟨0, 0, none⟩) 3 1) [2, 3, 5] := fun L => (Sl_freeze.2 sp).app L
 have q3 := isPitch_red q1
 have k82 := fun lim L2 => c74 (d := d) (lim := lim) (sp2 L2) q3 ht (EncS.red s q1)
 generalize smallL L H = x1 at *
 generalize smallH L H = x2 at *
 generalize smallE L H = x3 at *
 obtain ⟨u1, u2, u3, u4, hu⟩ := pit_pt (intX P S 48 n)
 simp only [pit, redV] at hu k87
 rw [hu] at k87
 have hu' := hu
 simp only [Value.agg.injEq, Array.mk.injEq, List.cons.injEq, Value.int.injEq, true_and, and_true] at hu'
 obtain ⟨e1, e2, e3, e4⟩ := hu'
 rw [e1, e2, e3, e4] at k82
 refine call1 fn58 rfl (by simp [ef58]) ?_
 simp [ef58, k86, k87, k82, hlt, hb2]
def beaV (l2 h2 e2 l1 h1 e1 : Int) : Int × Int × Int := if e2 ≠ 0 then (0, 0, e2) else if e1 ≠ 0 then (0, 0, e1) else (W (l2 - h1), W (h2 - l1), 0)
def beaS (L2 H2 L1 H1 : Nat) : Int × Int × Int := beaV (smallL L2 H2) (smallH L2 H2) (smallE L2 H2) (smallL L1 H1) (smallH L1 H1) (smallE L1 H1)
abbrev r3 (x : Int × Int × Int) : Value := rge x.1 x.2.1 x.2.2
theorem wNN {n : Nat} (h : n < 100000000) : IntKind.wrap .i64 (n : Int) = n := wrap_eq (by omega) (by omega)
theorem c38 {d lim : Nat} {h : Heap} {P S : Nat → Int} {b F n m p q L1 H1 L2 H2 : Nat} {rw : Bool} (sp : SlU h (.slice (some ⟨0, 0, none⟩) 3 1) [2, 3, 5]) (hb : h.get b = some ⟨circK P S, rw⟩) (o : Okt P S) (hn : n ≤ 87) (hm : m ≤ 87) (hF : 1 ≤ F ∧ F ≤ 1000000) (hp : 1 ≤ p ∧ p ≤ 16) (hq : 1 ≤ q ∧ q ≤ 16)
  (s1 : encN P S (F * p) n L1 H1) (s2 : encN P S (F * q) m L2 H2) :
  E.call (d + 7) lim 38 [.pointer (some ⟨b, 0, none⟩), i64 F, pt n m p q] h = some (r3 (beaS L2 H2 L1 H1), h) := by
 have hb2 : ∀ L, Heap.get (h.freeze ++ L) b = some ⟨circK P S, false⟩ := fun L => hget_append (hget_freeze hb)
 have hlt := Heap.get_lt hb
 have sp2 : ∀ L, SlU (h.freeze ++ L) (.slice (some ⟨0, 0, none⟩) 3 1) [2, 3, 5] := fun L => (Sl_freeze.2 sp).app L
 have b1 : 1 ≤ F * p ∧ F * p ≤ 16000000 := ⟨Nat.mul_pos hF.1 hp.1, Nat.le_trans (Nat.mul_le_mul hF.2 hp.2) (by omega)⟩
 have b2 : 1 ≤ F * q ∧ F * q ≤ 16000000 := ⟨Nat.mul_pos hF.1 hq.1, Nat.le_trans (Nat.mul_le_mul hF.2 hq.2) (by omega)⟩
 have k1 := fun lim L => c58 (d := d) (lim := lim) (sp2 L) (hb2 L) o hn ⟨b1.1, by omega⟩ s1
 have k2 := fun lim L => c58 (d := d) (lim := lim) (sp2 L) (hb2 L) o hm ⟨b2.1, by omega⟩ s2
 have w1 : IntKind.wrap .i64 ((F : Int) * p) = ((F * p : Nat) : Int) := by rw [← Int.natCast_mul, wNN (by omega)]
 have w2 : IntKind.wrap .i64 ((F : Int) * q) = ((F * q : Nat) : Int) := by rw [← Int.natCast_mul, wNN (by omega)]
 unfold beaS
 generalize smallL L2 H2 = x1 at *
 generalize smallH L2 H2 = x2 at *
 generalize smallE L2 H2 = x3 at *
 generalize smallL L1 H1 = y1 at *
 generalize smallH L1 H1 = y2 at *
 generalize smallE L1 H1 = y3 at *
 generalize F * p = u at *
 generalize F * q = w at *
 refine call1 fn38 rfl (by simp [ef38]) ?_
 by_cases e2 : x3 = 0
 ·by_cases e1 : y3 = 0
  ·simp [ef38, k1, k2, hlt, w1, w2, e1, e2, beaV]
  ·simp [ef38, k1, k2, hlt, w1, w2, e1, e2, beaV]
 ·simp [ef38, k1, k2, hlt, w1, w2, e2, beaV]
end M
end Go.Abs
namespace Go.Abs
namespace M
set_option maxRecDepth 100000
set_option maxHeartbeats 0
theorem SlBo1 {h : Heap} {b : Nat} {x : Bool} {rw : Bool} (e : h.get b = some ⟨[.bool x], rw⟩) : SlBo h (.slice (some ⟨b, 0, none⟩) 1 1) [x] :=
 ⟨rfl, rfl, fun _ => rfl, .inr ⟨b, 0, 1, 1, rfl, Heap.get_lt e⟩, fun k _ => by simp only [slB_some, slO_some, Nat.zero_add]; rw [cell_get e]; rfl⟩
def errB (nm : ByteArray) (P S : Nat → Int) (F n m p q : Int) : Int := if chkT nm P S ≠ 0 then chkT nm P S else if isFork F = true then chkX n m p q else 2
theorem c15 {d lim : Nat} {h : Heap} {C : List Value} {nm : ByteArray} {P S : Nat → Int} {F n m p q L1 H1 L2 H2 : Nat} (sp : SlU h (.slice (some ⟨0, 0, none⟩) 3 1) [2, 3, 5]) (t : Tm C nm P S) (hs : nm.size ≤ 1000) (h0 : chkT nm P S = 0) (hX : chkX n m p q = 0)
  (hn : n ≤ 87) (hm : m ≤ 87) (hF : 1 ≤ F ∧ F ≤ 1000000) (hp : 1 ≤ p ∧ p ≤ 16) (hq : 1 ≤ q ∧ q ≤ 16)
  (s1 : encN P S (F * p) n L1 H1) (s2 : encN P S (F * q) m L2 H2) :
  E.call (d + 8) lim 15 [.agg C.toArray, i64 F, pt n m p q] h = some (r3 (beaS L2 H2 L1 H1), h) := by
 obtain ⟨o, _⟩ := okt h0
 have hf : isFork F = true := by simp [isFork, within]; omega
 have gb : Heap.get (h.freeze ++ [some ⟨C, true⟩, some ⟨[i64 n, i64 m, i64 p, i64 q], true⟩, some ⟨[i64 0, i64 0], true⟩, some ⟨[.bool (isFork F)], true⟩]) (h.length + 3) = some ⟨[.bool (isFork F)], true⟩ := by rw [hget_base (by simp)]; rfl
 have sl := SlBo1 gb
 have gk : ∀ L, Heap.get (h.freeze ++ (some ⟨C, true⟩ :: some ⟨[i64 n, i64 m, i64 p, i64 q], true⟩ :: some ⟨[i64 0, i64 0], true⟩ :: some ⟨[.bool true], true⟩ :: some ⟨circK P S, true⟩ :: L)) (h.length + 4) = some ⟨circK P S, true⟩ := fun L => by rw [hget_base (by simp)]; rfl
 have sp2 : ∀ L, SlU (h.freeze ++ L) (.slice (some ⟨0, 0, none⟩) 3 1) [2, 3, 5] := fun L => (Sl_freeze.2 sp).app L
 have k84 := fun lim => c35 (d := d + 2) (lim := lim) t hs sl (by simp) h0 (by simp [hf])
 simp only [hf, List.length_append, Heap.length_freeze, List.length_cons, List.length_nil, List.append_assoc, List.cons_append, List.nil_append] at k84
 have k35 := fun lim hh => c37 (d := d + 5) (lim := lim) (h := hh) (n := n) (m := m) (p := p) (q := q)
 have k94 := fun lim L => c38 (d := d) (lim := lim) (sp2 _) (gk L) o hn hm hF hp hq s1 s2
 generalize beaS L2 H2 L1 H1 = X at *
 obtain ⟨x1, x2, x3⟩ := X
 refine call1 fn15 rfl (by simp [ef15]) ?_
 simp [ef15, t.len, t.take, c36, hf, k84, k35, hX, k94]
end M
end Go.Abs
namespace Go.Abs
namespace M
set_option maxRecDepth 100000
set_option maxHeartbeats 0
theorem EncS.mk' {a b c e : Int} {t L : Nat} (l : L ≤ 1000000000000000) (p : encP a b c e t L) (q : ¬ encP a b c e t (L + 1)) (r : ¬ encQ a b c e t L) : EncS a b c e t L (L + 1) :=
 ⟨by omega, fun n _ => ⟨fun k => by
  by_cases h : n ≤ L
  ·exact h
  ·exact absurd (encP_mono (by omega) k) q, fun k => encP_mono k p⟩, fun k => absurd k r, fun _ => rfl⟩
theorem int39 : intX (fun _ => 1) (fun _ => 0) 48 39 = (-9, 0, 0) := by decide +kernel
theorem int43 : intX (fun _ => 1) (fun _ => 0) 48 43 = (-5, 0, 0) := by decide +kernel
instance (a b c e : Int) (t n : Nat) : Decidable (encP a b c e t n) := by unfold encP; infer_instance
instance (a b c e : Int) (t n : Nat) : Decidable (encQ a b c e t n) := by unfold encQ; infer_instance
theorem enc39 : encN (fun _ => 1) (fun _ => 0) (440000 * 5) 39 1308127 1308128 := by
 unfold encN; rw [int39]
 exact EncS.mk' (by decide) (by decide +kernel) (by decide +kernel) (by decide +kernel)
theorem enc43 : encN (fun _ => 1) (fun _ => 0) (440000 * 4) 43 1318510 1318511 := by
 unfold encN; rw [int43]
 exact EncS.mk' (by decide) (by decide +kernel) (by decide +kernel) (by decide +kernel)
theorem awake {d lim : Nat} {h : Heap} (sp : SlU h (.slice (some ⟨0, 0, none⟩) 3 1) [2, 3, 5]) : E.call (d + 9) lim 5 [] h = some (.bool true, h) := by
 have k21 := fun lim hh => c13 (d := d + 1) (lim := lim) (h := hh) (n := 51) tmE (by decide)
 rw [intE] at k21
 have sp2 : ∀ L, SlU (h.freeze ++ L) (.slice (some ⟨0, 0, none⟩) 3 1) [2, 3, 5] := fun L => (Sl_freeze.2 sp).app L
 have k28 := fun lim L => c15 (d := d) (lim := lim) (F := 440000) (n := 39) (m := 43) (p := 5) (q := 4) (sp2 L) tmE (by decide) chkE (by decide +kernel) (by decide) (by decide) (by decide) (by decide) (by decide) enc39 enc43
 have hv : beaS 1318510 1318511 1308127 1308128 = (10382, 10384, 0) := by decide +kernel
 rw [hv] at k28
 simp only [Int.cast_ofNat_Int] at k28
 unfold eqC at k21 k28
 have k83 := fun lim hh => c14 (d := d + 6) (lim := lim) (h := hh)
 unfold eqC at k83
 have k66 := fun lim hh => c16 (d := d + 7) (lim := lim) (h := hh)
 have bp : (bea 11 ++ [i64 44, i64 32]).all plainV = true := by rw [List.all_append, bea_plain]; rfl
 have bl := bea_len 11
 have e1 : bea 11 ++ [i64 44, i64 32] = [i64 48, i64 36, i64 36, i64 43, i64 43, i64 38, i64 38, i64 33, i64 33, i64 40, i64 40, i64 35, i64 35, i64 42, i64 42, i64 37, i64 37, i64 44, i64 44, i64 39, i64 39, i64 34, i64 34, i64 41, i64 44, i64 32] := by simp [bea, nt]
 rw [e1] at k66
 refine call1 fn5 rfl (by simp [ef5]) ?_
 simp [ef5, k83, k21, k28, k66]
end M
end Go.Abs
namespace Go.Abs
namespace M
set_option maxRecDepth 100000
set_option maxHeartbeats 0
abbrev ctT : Bool × List CT := (true, .str :: List.replicate 24 ctI)
theorem arg_tm {d : Nat} {h : Heap} {u : Value} (a : ArgV d h ctT u) : ∃ C nm P S, u = .agg C.toArray ∧ Tm C nm P S ∧ nm.size ≤ maxLen ∧ (∀ i, i < 12 → R64 (P i) ∧ R64 (S i)) := by
 obtain ⟨us, rfl, hl, t⟩ := a
 have h25 : us.length = 25 := by rw [hl]; simp
 let I : Nat → Int := fun k => match us[k]? with | some (.int _ x) => x | _ => 0
 have key : ∀ k, 1 ≤ k → k < 25 → us[k]? = some (i64 (I k)) ∧ R64 (I k) := fun k h1 h2 => by
  have hu : us[k]? = some (us[k]'(by omega)) := List.getElem?_eq_getElem _
  obtain ⟨n, hn, r⟩ := typ_int (t k ctI _ (by
   obtain ⟨j, rfl⟩ : ∃ j, k = j + 1 := ⟨k - 1, by omega⟩
   rw [List.getElem?_cons_succ, List.getElem?_replicate, if_pos (by omega)]) hu)
  have e : I k = n := by simp only [I]; rw [hu, hn]
  rw [e, hu, hn]
  exact ⟨rfl, r⟩
 have h0 : us[0]? = some (us[0]'(by omega)) := List.getElem?_eq_getElem _
 obtain ⟨s, hs, hz⟩ := typ_str (t 0 .str _ rfl h0)
 rw [hs] at h0
 exact ⟨us, s, fun i => I (1 + i), fun i => I (13 + i), rfl, ⟨h25, h0, fun i hi => (key _ (by omega) (by omega)).1, fun i hi => (key _ (by omega) (by omega)).1⟩, hz, fun i hi => ⟨(key _ (by omega) (by omega)).2, (key _ (by omega) (by omega)).2⟩⟩
end M
end Go.Abs
