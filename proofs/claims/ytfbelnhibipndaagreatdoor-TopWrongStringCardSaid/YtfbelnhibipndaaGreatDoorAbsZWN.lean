/- What is heard of an instrument: walked. -/
import Derived.Test.YtfbelnhibipndaaGreatDoorAbsZWM
set_option linter.unusedSimpArgs false
set_option linter.unusedVariables false
/- What is heard of an instrument: walked. -/
namespace Go.Abs
namespace Z.U
set_option maxRecDepth 100000
set_option maxHeartbeats 0
set_option linter.unusedSimpArgs false
theorem c3_pl (l : List P3) : (cS enc3 l).all plainV = true := by simp [cS, List.all_flatMap, enc3, plainV]
theorem sd_snoc {Lf Hf : Nat → Nat} {X b : Int} {N : List Int} {i : Nat} (h : i < N.length) : cS enc3 ((sdL Lf Hf X b N).take i) ++ enc3 (sdg Lf Hf X b (gI N i)) = cS enc3 ((sdL Lf Hf X b N).take (i + 1)) := by
  rw [List.take_add_one]
  have : (sdL Lf Hf X b N)[i]? = some (sdg Lf Hf X b (gI N i)) := by
    unfold sdL
    rw [List.getElem?_map, List.getElem?_eq_getElem h, gI_eq h]; rfl
  rw [this]
  simp [cS]
theorem c38 {d lim F : Nat} {h : Heap} {v : Value} {l : List P4} {C : List Value} {nm : ByteArray} {P S : Nat → Int} {X b : Int} {Lf Hf : Nat → Nat} {bt : Nat → Int × Int} (s : Sl4 h v l) (sp : SlU h v3p [2, 3, 5]) (t : Tm C nm P S) (hs : nm.size ≤ 1000) (h0 : chkT nm P S = 0)
    (hF : 1 ≤ F ∧ F ≤ 1000000) (he : ∀ n, n ≤ 87 → encN P S F n (Lf n) (Hf n)) (f : FrOk Lf Hf b) (hbb : b ≤ 1000000) (O : TOk l) (l12 : l.length ≤ 12) (l0 : l.length ≠ 0)
    (hb : ∀ i, i < l.length → (bt i).1 ≤ (bt i).2 ∧ ∀ lim hh, SlU hh v3p [2, 3, 5] → E.call (d + 8) lim 51 [.agg C.toArray, i64 F, vT (at4 l i)] hh = some (r3 ((bt i).1, (bt i).2, 0), hh)) :
    E.call (d + 10) lim 38 [.agg C.toArray, v, .agg #[i64 F, i64 X, i64 b]] h =
      some (.tuple #[iV h.length (fdL bt (hL (sdL Lf Hf X b (ntD l)) l l.length) l.length), .bool true], h ++ iB (fdL bt (hL (sdL Lf Hf X b (ntD l)) l l.length) l.length)) := by
  have r := s.rules2
  have hnil : ¬ l = [] := fun e => l0 (by rw [e]; rfl)
  have k70 := fun (L : Heap) lim => c70 (d := d + 7) (lim := lim) ((Sl_freeze.2 s).app L) (by omega)
  rw [← ntD_rn O] at k70
  have hN : ∀ x ∈ ntD l, 0 ≤ x ∧ x ≤ 87 := fun x hx => by
    rw [ntD_rn O] at hx
    obtain ⟨j, hj, rfl, _⟩ := (rn_mem 88).1 hx
    omega
  have dl : (ntD l).length ≤ 88 := by rw [ntD_rn O]; exact rn_len l 88
  have dn : ntD l ≠ [] := fun y => by
    have m : (at4 l 0).1 ∈ ntD l := dd_mem _ (Nat.le_refl _) (by rw [List.take_length]; exact mem_ntS.2 ((mem_nts _).2 ⟨0, by omega, .inl rfl⟩))
    rw [y] at m; cases m
  simp only [lV, lB, if_neg dn] at k70
  have hk := heard_ok (X := X) O f
  have hc := chkN_heard (X := X) O f
  have sp3 : ∀ L, SlU (Heap.freeze (h.freeze ++ L)) v3p [2, 3, 5] := fun L => Sl_freeze.2 ((Sl_freeze.2 sp).app L)
  have tp := t.plain
  have tuz : tuE nm P S F = 0 := by
    unfold tuE
    have : isFork (F : Int) = true := by simp [isFork, Z.within]; omega
    rw [if_pos h0, if_pos this]
  refine call_pure fn38 rfl (by simp [ef38]) ?_
  have hat : ∀ i, i < l.length → (at6 (hL (sdL Lf Hf X b (ntD l)) l l.length) i).1 = at4 l i := fun i hi => by rw [hrd_at hi]
  generalize hNN : ntD l = N at *
  have cpN := cI_pl N
  simp [-collect_own1, ef38, k70, t.len, t.take]
  refine wpC_loop (fun q st => ∃ i : Nat, q = N.length - i ∧ i ≤ N.length ∧ st = if i = 0 then ⟨[(1, v), (3, .pointer (some ⟨h.length, 0, none⟩)), (5, .pointer (some ⟨h.length + 1, 0, none⟩)), (8, vS (h.length + 2) N.length), (9, .slice none 0 0), (10, i64 (i : Int))], h.freeze ++ [some ⟨C, true⟩, some ⟨[i64 F, i64 X, i64 b], true⟩, some ⟨cI N, true⟩]⟩
    else ⟨[(1, v), (3, .pointer (some ⟨h.length, 0, none⟩)), (5, .pointer (some ⟨h.length + 1, 0, none⟩)), (8, vS (h.length + 2) N.length), (9, .slice (some ⟨h.length + 3, 0, none⟩) i 3), (10, i64 (i : Int))], h.freeze ++ [some ⟨C, true⟩, some ⟨[i64 F, i64 X, i64 b], true⟩, some ⟨cI N, true⟩, some ⟨cS enc3 ((sdL Lf Hf X b N).take i), true⟩]⟩) N.length (by show N.length < 2 ^ 64; omega) ?_ ?_
  · simp [-collect_own1, tp, cpN, St.tidy, collect_box, s.own, r]
    exact ⟨0, by omega, by omega, by simp⟩
  · rintro q hq _ ⟨i, rfl, hi, rfl⟩
    have sll := sdL_len Lf Hf X b N
    have lk : ((sdL Lf Hf X b N).take i).length = i := by rw [List.length_take]; omega
    by_cases lt : i < N.length
    · have lti : (i : Int) < N.length := by omega
      have w1' := w1 (i := i) (by omega)
      obtain ⟨p1, p2, p3, p4, p5⟩ := ixL lt
      have rx := hN _ (gI_mem lt)
      have sn := sd_snoc (Lf := Lf) (Hf := Hf) (X := X) (b := b) lt
      obtain ⟨m, hm⟩ : ∃ m : Nat, gI N i = m := ⟨(gI N i).toNat, by omega⟩
      have fm := f.bd m (by omega)
      have k71 := fun lim L => Z.c71 (d := d + 2) (lim := lim) (sp3 L) t hs h0 (show m ≤ 87 by omega) hF (he m (by omega))
      rw [hm] at p2 p3 sn
      have e3 : enc3 (sdg Lf Hf X b (m : Int)) = [i64 (m : Int), i64 ((Lf m : Int) + shf X b m), i64 ((Hf m : Int) + shf X b m)] := by
        show [i64 (m : Int), i64 ((Lf (m : Int).toNat : Int) + shf X b m), i64 ((Hf (m : Int).toNat : Int) + shf X b m)] = _
        rw [show ((m : Int)).toNat = m by omega]
      rw [e3] at sn
      have wL : IntKind.wrap .i64 ((Lf m : Int) + b) = (Lf m : Int) + b := wrap_eq (by have := f.b0; omega) (by omega)
      have wH : IntKind.wrap .i64 ((Hf m : Int) + b) = (Hf m : Int) + b := wrap_eq (by have := f.b0; omega) (by omega)
      have cl := c3_len ((sdL Lf Hf X b N).take i)
      rw [lk] at cl
      have cp := c3_pl ((sdL Lf Hf X b N).take i)
      have cp1 := c3_pl ((sdL Lf Hf X b N).take (i + 1))
      generalize hD : cS enc3 ((sdL Lf Hf X b N).take i) = D at *
      generalize hD1 : cS enc3 ((sdL Lf Hf X b N).take (i + 1)) = D1 at *
      by_cases hX : (m : Int) = X
      · have sf : shf X b m = b := by unfold shf; rw [if_pos hX]
        rw [sf] at sn
        subst hX
        rcases Nat.eq_zero_or_pos i with z0 | z0
        · subst z0
          have d0 : D = [] := by rw [← hD]; rfl
          rw [d0, List.nil_append] at sn
          rw [if_pos rfl]
          simp [-collect_own1, Nat.add_assoc, KOp_eq, Log.clash, dn, lt, p1, p2, p3, p4, p5, k71, wL, wH, t.len, t.take, fillL, zeros, E.append, E.added, w1', tp, cpN, St.tidy, collect_box, s.own, r]
          exact ⟨by decide, N.length - 1, by omega, 1, by omega, by omega, by rw [if_neg (by decide), hD1, ← sn]; rfl⟩
        · have n0 : i ≠ 0 := by omega
          rw [if_neg n0]
          simp [-collect_own1, Nat.add_assoc, KOp_eq, Log.clash, n0, lti, lt, Nat.not_le.2 lt, p1, p2, p3, p4, p5, k71, wL, wH, t.len, t.take, fillL, zeros, E.append, E.added, cl, sn, cp1, w1', tp, cpN, St.tidy, collect_box, s.own, r]
          exact ⟨⟨by omega, by unfold maxLen; omega⟩, N.length - (i + 1), by omega, i + 1, rfl, by omega, by rw [if_neg (by omega), hD1]; simp⟩
      · have sf : shf X b m = 0 := by unfold shf; rw [if_neg hX]
        rw [sf, Int.add_zero, Int.add_zero] at sn
        rcases Nat.eq_zero_or_pos i with z0 | z0
        · subst z0
          have d0 : D = [] := by rw [← hD]; rfl
          rw [d0, List.nil_append] at sn
          rw [if_pos rfl]
          simp [-collect_own1, Nat.add_assoc, KOp_eq, Log.clash, dn, lt, p1, p2, p3, p4, p5, k71, hX, t.len, t.take, fillL, zeros, E.append, E.added, w1', tp, cpN, St.tidy, collect_box, s.own, r]
          exact ⟨by decide, N.length - 1, by omega, 1, by omega, by omega, by rw [if_neg (by decide), hD1, ← sn]; rfl⟩
        · have n0 : i ≠ 0 := by omega
          rw [if_neg n0]
          simp [-collect_own1, Nat.add_assoc, KOp_eq, Log.clash, n0, lti, lt, Nat.not_le.2 lt, p1, p2, p3, p4, p5, k71, hX, t.len, t.take, fillL, zeros, E.append, E.added, cl, sn, cp1, w1', tp, cpN, St.tidy, collect_box, s.own, r]
          exact ⟨⟨by omega, by unfold maxLen; omega⟩, N.length - (i + 1), by omega, i + 1, rfl, by omega, by rw [if_neg (by omega), hD1]; simp⟩
    · obtain rfl : N.length = i := by omega
      have n0 : N.length ≠ 0 := fun z => dn (List.eq_nil_of_length_eq_zero z)
      rw [if_neg n0]
      have tk : (sdL Lf Hf X b N).take N.length = sdL Lf Hf X b N := List.take_of_length_le (by omega)
      rw [tk]
      have ll : (hL (sdL Lf Hf X b N) l l.length).length = l.length := hL_len _ _ _
      have so := fun (L : Heap) (b' n' : Nat) (hg : Heap.get (h.freeze ++ L) b' = some ⟨cS enc3 (sdL Lf Hf X b N), true⟩) (hn : n' = (sdL Lf Hf X b N).length) => Sl_own (f := enc3) (es := 3) (fun _ => rfl) hg hn
      have k67 := fun (L : Heap) (b' n' lim : Nat) (hg : Heap.get (h.freeze ++ L) b' = some ⟨cS enc3 (sdL Lf Hf X b N), true⟩) (hn : n' = (sdL Lf Hf X b N).length) => c67 (d := d + 4) (lim := lim) (so L b' n' hg hn) ((Sl_freeze.2 s).app L)
      simp only [hVal, hBlk, if_pos hk, sl6, bl6, ll, if_neg l0, hk] at k67
      have so6 := fun (L : Heap) (b' n' : Nat) (hg : Heap.get (h.freeze ++ L) b' = some ⟨cS enc6 (hL (sdL Lf Hf X b N) l l.length), true⟩) (hn : n' = (hL (sdL Lf Hf X b N) l l.length).length) => Sl_own (f := enc6) (es := 6) (fun _ => rfl) hg hn
      have k22 := fun (L : Heap) (b' n' lim : Nat) (hg : Heap.get (h.freeze ++ L) b' = some ⟨cS enc6 (hL (sdL Lf Hf X b N) l l.length), true⟩) (hn : n' = (hL (sdL Lf Hf X b N) l l.length).length) => c22 (d := d) (lim := lim) (F := (F : Int)) (bt := bt) (so6 L b' n' hg hn) t hs
        (fun _ _ i hi => ⟨(hb i (by omega)).1, fun lim L' => by
          rw [show (at6 (hL (sdL Lf Hf X b N) l l.length) i).1 = at4 l i from hat i (by omega)]
          exact (hb i (by omega)).2 lim _ (Sl.app (Sl_freeze.2 ((Sl_freeze.2 sp).app L)) L')⟩)
      simp only [tuz, hc, ll, true_and, if_true, and_self] at k22
      have c3p := c3_pl (sdL Lf Hf X b N)
      have c6p := c6_plain (hL (sdL Lf Hf X b N) l l.length)
      generalize fdL bt (hL (sdL Lf Hf X b N) l l.length) l.length = G at *
      have cpG := cI_pl G
      by_cases z : G = []
      · simp [Nat.add_assoc, KOp_eq, Log.clash, k67, k22, sll, ll, tp, cpN, c3p, c6p, r, t.len, t.take, iV, iB, z]
      · simp [Nat.add_assoc, KOp_eq, Log.clash, k67, k22, sll, ll, tp, cpN, c3p, c6p, r, t.len, t.take, iV, iB, z, cpG]
end Z.U
end Go.Abs
/- The named temperaments. -/
namespace Go.Abs
namespace Z
set_option maxRecDepth 100000
set_option maxHeartbeats 0
def setAll (v : Value) (o : Nat) (idx : List Nat) (cs : List Value) : List Value := idx.foldl (fun c i => c.set (o + i) v) cs
theorem setAll_len (v : Value) (o : Nat) : ∀ (idx : List Nat) (cs : List Value), (setAll v o idx cs).length = cs.length
  | [], _ => rfl
  | i :: r, cs => by
    have := setAll_len v o r (cs.set (o + i) v)
    rw [List.length_set] at this
    exact this
theorem setAll_take (v : Value) (o : Nat) {idx : List Nat} {j : Nat} (hj : j < idx.length) (cs : List Value) : setAll v o (idx.take (j + 1)) cs = (setAll v o (idx.take j) cs).set (o + idx[j]) v := by
  unfold setAll
  rw [List.take_succ_eq_append_getElem hj, List.foldl_append]; rfl
theorem hput_put (h : Heap) (b : Nat) (x y : Option Blk) : (h.put b x).put b y = h.put b y := by simp [Heap.put]
theorem hput_self {h : Heap} {b : Nat} {k : Blk} (e : h.get b = some k) : h.put b (some k) = h := by
  unfold Heap.get at e
  unfold Heap.put
  rcases q : h[b]? with _ | o
  · simp [q] at e
  · simp [q] at e
    subst e
    have hb : b < h.length := by
      rcases Nat.lt_or_ge b h.length with z | z
      · exact z
      · rw [List.getElem?_eq_none z] at q; cases q
    rw [List.getElem?_eq_getElem hb] at q
    have := Option.some.inj q
    rw [← this]; exact List.set_getElem_self hb
theorem c106 {d lim : Nat} {h : Heap} {b o sb : Nat} {x : Int} {idx : List Nat} {cs : List Value} {rw' : Bool} (hb : h.get b = some ⟨cs, true⟩) (hs : h.get sb = some ⟨idx.map (fun i : Nat => i64 (i : Int)), rw'⟩) (hne : sb ≠ b)
    (hi : ∀ i ∈ idx, i < 12) (hl : idx.length ≤ 100) (ho : o + 12 ≤ cs.length) :
    E.call (d + 1) lim 106 [.pointer (some ⟨b, o, none⟩), i64 x, .slice (some ⟨sb, 0, none⟩) idx.length 1] h = some (.tuple #[], h.put b (some ⟨setAll (i64 x) o idx cs, true⟩)) := by
  have hbl := Heap.get_lt hb
  have hsl := Heap.get_lt hs
  have key : ∃ v h', E.call (d + 1) lim 106 [.pointer (some ⟨b, o, none⟩), i64 x, .slice (some ⟨sb, 0, none⟩) idx.length 1] h = some (v, h') ∧ v = .tuple #[] ∧ h' = h.put b (some ⟨setAll (i64 x) o idx cs, true⟩) := by
    refine call_trunc (Q := fun v h' => v = .tuple #[] ∧ h' = h.put b (some ⟨setAll (i64 x) o idx cs, true⟩)) fn106 rfl (by simp [ef106]) ?_
    simp [ef106]
    refine wpC_loop (fun m st => ∃ j, m = idx.length - j ∧ j ≤ idx.length ∧ st = ⟨[(0, .pointer (some ⟨b, o, none⟩)), (1, i64 x), (8, .slice (some ⟨sb, 0, none⟩) idx.length 1), (9, i64 idx.length), (10, i64 j)], h.put b (some ⟨setAll (i64 x) o (idx.take j) cs, true⟩)⟩) idx.length (by show idx.length < 2 ^ 64; omega) ?_ ?_
    · simp [St.tidy, hbl, hsl]
      exact ⟨0, by omega, by omega, rfl, by simp [setAll, hput_self hb]⟩
    · rintro m hm _ ⟨j, rfl, hj, rfl⟩
      by_cases hlt : j < idx.length
      · have hh : idx.length * 1 = idx.length := by omega
        have hv : idx[j] < 12 := hi _ (List.getElem_mem hlt)
        have g1 : Heap.get (h.put b (some ⟨setAll (i64 x) o (idx.take j) cs, true⟩)) sb = some ⟨idx.map (fun i : Nat => i64 (i : Int)), rw'⟩ := by rw [Heap.get_put_ne _ (Ne.symm hne)]; exact hs
        have g2 : Heap.get (h.put b (some ⟨setAll (i64 x) o (idx.take j) cs, true⟩)) b = some ⟨setAll (i64 x) o (idx.take j) cs, true⟩ := Heap.get_put_eq _ hbl
        have sl := setAll_len (i64 x) o (idx.take j) cs
        have st := setAll_take (i64 x) o hlt cs
        have w1' := w1 (i := j) (by omega)
        simp only [W] at w1'
        have c1 : ((idx[j] : Nat) : Int) < 12 := by omega
        have gc := fun z => cell_get (o := z) g1
        simp [St.tidy, hbl, hsl, hlt, g2, gc]
        refine ⟨by omega, ⟨by omega, .inr rfl⟩, idx.length - (j + 1), by omega, j + 1, rfl, by omega, w1', ?_⟩
        rw [hput_put, List.take_of_length_le (by rw [Heap.length_put]; omega), ← st]
      · obtain rfl : j = idx.length := by omega
        have tk : ∀ y, List.take h.length (h.put b y) = h.put b y := fun y => List.take_of_length_le (by rw [Heap.length_put]; omega)
        simp [tk]
  obtain ⟨v, h', e, rfl, rfl⟩ := key
  exact e
def nmE : ByteArray := ⟨#[101, 113, 117, 97, 108]⟩
def tmC (nm : ByteArray) (p s : List Int) : List Value := .string nm :: (p ++ s).map i64
def z12 : List Int := [0, 0, 0, 0, 0, 0, 0, 0, 0, 0, 0, 0]
def ixC (idx : List Nat) : List Value := idx.map (fun i : Nat => i64 (i : Int))
theorem each3 {d lim : Nat} {h : Heap} {n : Nat} (hn : n = h.length) {A : Option Blk} {o : Nat} {x : Int} {idx : List Nat} {cs : List Value} (hi : ∀ i ∈ idx, i < 12) (hl : idx.length ≤ 100) (ho : o + 12 ≤ cs.length) :
    E.call (d + 1) lim 106 [.pointer (some ⟨n + 1, o, none⟩), i64 x, .slice (some ⟨n + 2, 0, none⟩) idx.length 1] (h.freeze ++ [A, some ⟨cs, true⟩, some ⟨ixC idx, true⟩]) =
      some (.tuple #[], h.freeze ++ [A, some ⟨setAll (i64 x) o idx cs, true⟩, some ⟨ixC idx, true⟩]) := by
  have g1 : Heap.get (h.freeze ++ [A, some ⟨cs, true⟩, some ⟨ixC idx, true⟩]) (n + 1) = some ⟨cs, true⟩ := by rw [hget_base (by simp [hn])]; rfl
  have g2 : Heap.get (h.freeze ++ [A, some ⟨cs, true⟩, some ⟨ixC idx, true⟩]) (n + 2) = some ⟨ixC idx, true⟩ := by rw [hget_base (by simp [hn])]; rfl
  rw [c106 g1 g2 (by omega) hi hl ho, hput_base (by simp [hn])]
  rfl
def tpE : List Int := [1, 1, 1, 1, 1, 1, 1, 1, 1, 1, 1, 1]
def tsE : List Int := z12
theorem c57E {d lim : Nat} {h : Heap} : E.call (d + 2) lim 66 [.string nmE] h = some (.tuple #[.agg (tmC nmE tpE tsE).toArray, i64 0], h) := by
  refine call1 fn66 rfl (by simp [ef66]) ?_
  unfold nmE
  have k := fun lim A nm => each3 (d := d) (lim := lim) (h := h) (n := h.length) rfl (A := A) (o := 1) (x := 1) (idx := [0, 1, 2, 3, 4, 5, 6, 7, 8, 9, 10, 11]) (cs := tmC nm z12 z12) (by decide) (by decide) (by simp [tmC, z12])
  simp [ixC, setAll, tmC, z12] at k
  simp [ef66, tmC, z12, tpE, tsE, k]
end Z
end Go.Abs
/- That the laws' own walk hears a wrong count. -/
namespace Go.Abs
namespace Z.U
set_option maxRecDepth 100000
set_option maxHeartbeats 0
set_option linter.unusedSimpArgs false
def PF (l : List Int) (i : Nat) : Int := l.getD i 0
theorem tmC_tm {nm : ByteArray} {p s : List Int} (hp : p.length = 12) (hs : s.length = 12) : Tm (tmC nm p s) nm (PF p) (PF s) :=
  ⟨by simp [tmC, hp, hs], rfl, fun i hi => by
    unfold tmC PF
    rw [Nat.add_comm, List.getElem?_cons_succ, List.map_append, List.getElem?_append_left (by simp; omega), List.getElem?_map, List.getElem?_eq_getElem (by omega), List.getD_eq_getElem?_getD, List.getElem?_eq_getElem (by omega)]; rfl, fun i hi => by
    unfold tmC PF
    have : 13 + i = (12 + i) + 1 := by omega
    rw [this, List.getElem?_cons_succ, List.map_append, List.getElem?_append_right (by simp; omega)]
    have : 12 + i - (List.map i64 p).length = i := by simp; omega
    rw [this, List.getElem?_map, List.getElem?_eq_getElem (by omega), List.getD_eq_getElem?_getD, List.getElem?_eq_getElem (by omega)]; rfl⟩
theorem chk_E : chkT nmE (PF tpE) (PF tsE) = 0 := by decide +kernel
theorem EncS.exact {a b c e : Int} {t L : Nat} (l : L ≤ 1000000000000000) (p : encQ a b c e t L) (q : ¬ encP a b c e t (L + 1)) : EncS a b c e t L L :=
  ⟨by omega, fun n _ => ⟨fun k => by
    by_cases h : n ≤ L
    · exact h
    · exact absurd (encP_mono (by omega) k) q, fun k => encP_mono k (Nat.le_of_eq p)⟩, fun _ => rfl, fun k => absurd p k⟩
theorem EncS.near {a b c e : Int} {t L : Nat} (l : L ≤ 1000000000000000) (p : encP a b c e t L) (r : ¬ encQ a b c e t L) (q : ¬ encP a b c e t (L + 1)) : EncS a b c e t L (L + 1) :=
  ⟨by omega, fun n _ => ⟨fun k => by
    by_cases h : n ≤ L
    · exact h
    · exact absurd (encP_mono (by omega) k) q, fun k => encP_mono k p⟩, fun k => absurd k r, fun _ => rfl⟩
instance {a b c e : Int} {t n : Nat} : Decidable (encP a b c e t n) := by unfold encP; infer_instance
instance {a b c e : Int} {t n : Nat} : Decidable (encQ a b c e t n) := by unfold encQ; infer_instance
theorem encA : encN (PF tpE) (PF tsE) 440000 36 220000 220000 := by unfold encN; exact EncS.exact (by decide) (by decide +kernel) (by decide +kernel)
theorem encE : encN (PF tpE) (PF tsE) 440000 43 329627 329628 := by unfold encN; exact EncS.near (by decide) (by decide +kernel) (by decide +kernel) (by decide +kernel)
theorem encB : encN (PF tpE) (PF tsE) 440000 48 440000 440000 := by unfold encN; exact EncS.exact (by decide) (by decide +kernel) (by decide +kernel)
def s3E : List P3 := [(36, 220000, 220000), (43, 329000, 329000), (48, 440000, 440000)]
def t4E : List P4 := [(36, 43, 3, 2), (36, 48, 2, 1)]
theorem hrdE : hL s3E t4E 2 = [((36, 43, 3, 2), (-2000, -2000)), ((36, 48, 2, 1), (0, 0))] := by decide +kernel
theorem hErE : hErr s3E t4E = 0 := by decide +kernel
theorem chkE : chkN (hL s3E t4E 2) = 0 := by decide +kernel
theorem freE : ∃ Lf Hf : Nat → Nat, (∀ n, n ≤ 87 → encN (PF tpE) (PF tsE) 440000 n (Lf n) (Hf n)) ∧ Lf 36 = 220000 ∧ Hf 36 = 220000 ∧ Lf 43 = 329627 ∧ Hf 43 = 329628 ∧ Lf 48 = 440000 ∧ Hf 48 = 440000 := by
  have E : ∀ n, ∃ p : Nat × Nat, encN (PF tpE) (PF tsE) 440000 n p.1 p.2 ∧ (n = 36 → p = (220000, 220000)) ∧ (n = 43 → p = (329627, 329628)) ∧ (n = 48 → p = (440000, 440000)) := fun n => by
    by_cases e1 : n = 36
    · subst e1; exact ⟨(220000, 220000), encA, fun _ => rfl, fun k => by omega, fun k => by omega⟩
    by_cases e2 : n = 43
    · subst e2; exact ⟨(329627, 329628), encE, fun k => by omega, fun _ => rfl, fun k => by omega⟩
    by_cases e3 : n = 48
    · subst e3; exact ⟨(440000, 440000), encB, fun k => by omega, fun k => by omega, fun _ => rfl⟩
    obtain ⟨L, H, s⟩ := encS (intX (PF tpE) (PF tsE) 48 n).1 (intX (PF tpE) (PF tsE) 48 n).2.1 (intX (PF tpE) (PF tsE) 48 n).2.2 12 (by decide) 440000
    exact ⟨(L, H), s, fun k => absurd k e1, fun k => absurd k e2, fun k => absurd k e3⟩
  refine ⟨fun n => (Classical.choose (E n)).1, fun n => (Classical.choose (E n)).2, fun n _ => (Classical.choose_spec (E n)).1, ?_⟩
  have a := (Classical.choose_spec (E 36)).2.1 rfl
  have b := (Classical.choose_spec (E 43)).2.2.1 rfl
  have c := (Classical.choose_spec (E 48)).2.2.2 rfl
  exact ⟨congrArg Prod.fst a, congrArg Prod.snd a, congrArg Prod.fst b, congrArg Prod.snd b, congrArg Prod.fst c, congrArg Prod.snd c⟩
theorem beatsE : ∃ bt : Nat → Int × Int, fdL bt (hL s3E t4E 2) 2 = [0] ∧ ∀ i, i < (hL s3E t4E 2).length → (bt i).1 ≤ (bt i).2 ∧ ∀ (d lim : Nat) (hh : Heap), SlU hh v3p [2, 3, 5] → E.call (d + 8) lim 51 [.agg (tmC nmE tpE tsE).toArray, i64 440000, vT (at6 (hL s3E t4E 2) i).1] hh = some (r3 ((bt i).1, (bt i).2, 0), hh) := by
  obtain ⟨Lf, Hf, he, l1, h1, l2, h2, l3, h3⟩ := freE
  have tm := tmC_tm (nm := nmE) (p := tpE) (s := tsE) rfl rfl
  obtain ⟨A, a1, a2, a3, a4⟩ := beat_of2 (F := 440000) (x := (36, 43, 3, 2)) tm (by decide) chk_E (by decide) he (by decide)
  obtain ⟨B, b1, b2, b3, b4⟩ := beat_of2 (F := 440000) (x := (36, 48, 2, 1)) tm (by decide) chk_E (by decide) he (by decide)
  simp only [show Int.toNat 36 = 36 from rfl, show Int.toNat 43 = 43 from rfl, show Int.toNat 48 = 48 from rfl, l1, h1, l2, h2, l3, h3] at a2 a3 b2 b3
  refine ⟨fun i => if i = 0 then A else B, ?_, ?_⟩
  · rw [hrdE]
    simp [fdL, failB, at6]
    rw [if_neg (by omega), if_pos (by omega)]
  · rw [hrdE]
    rintro i hi
    rcases (show i = 0 ∨ i = 1 by simp at hi; omega) with rfl | rfl
    · exact ⟨a1, fun d lim hh sp => a4 d lim hh sp⟩
    · exact ⟨b1, fun d lim hh sp => b4 d lim hh sp⟩
theorem c35 {d lim : Nat} {h : Heap} (sp : SlU h v3p [2, 3, 5]) : E.call (d + 10) lim 35 [] h = some (.bool true, h) := by
  obtain ⟨bt, f1, hb⟩ := beatsE
  have tm := tmC_tm (nm := nmE) (p := tpE) (s := tsE) rfl rfl
  have tuz : tuE nmE (PF tpE) (PF tsE) 440000 = 0 := by
    unfold tuE
    rw [if_pos chk_E, if_pos (by decide)]
  have k66 := fun lim hh => c57E (d := d + 7) (lim := lim) (h := hh)
  have so3 := fun (L : Heap) (b' n' : Nat) (hg : Heap.get (h.freeze ++ L) b' = some ⟨cS enc3 s3E, true⟩) (hn : n' = s3E.length) => Sl_own (f := enc3) (es := 3) (fun _ => rfl) hg hn
  have so4 := fun (L : Heap) (b' n' : Nat) (hg : Heap.get (h.freeze ++ L) b' = some ⟨cS enc4 t4E, true⟩) (hn : n' = t4E.length) => Sl_own (f := enc4) (es := 4) (fun _ => rfl) hg hn
  have k67 := fun (L : Heap) (b' n' b2 n2 lim : Nat) (hg : Heap.get (h.freeze ++ L) b' = some ⟨cS enc3 s3E, true⟩) (hn : n' = s3E.length) (hg2 : Heap.get (h.freeze ++ L) b2 = some ⟨cS enc4 t4E, true⟩) (hn2 : n2 = t4E.length) => c67 (d := d + 4) (lim := lim) (so3 L b' n' hg hn) (so4 L b2 n2 hg2 hn2)
  simp only [hVal, hBlk, if_pos hErE, sl6, bl6, hErE, show t4E.length = 2 from rfl, show (hL s3E t4E 2).length = 2 from rfl] at k67
  have so6 := fun (L : Heap) (b' n' : Nat) (hg : Heap.get (h.freeze ++ L) b' = some ⟨cS enc6 (hL s3E t4E 2), true⟩) (hn : n' = (hL s3E t4E 2).length) => Sl_own (f := enc6) (es := 6) (fun _ => rfl) hg hn
  have k22 := fun (L : Heap) (b' n' lim : Nat) (hg : Heap.get (h.freeze ++ L) b' = some ⟨cS enc6 (hL s3E t4E 2), true⟩) (hn : n' = (hL s3E t4E 2).length) => c22 (d := d) (lim := lim) (F := 440000) (bt := bt) (so6 L b' n' hg hn) tm (show nmE.size ≤ 1000 by decide)
    (fun _ _ i hi => ⟨(hb i hi).1, fun lim L' => (hb i hi).2 d lim _ (Sl.app (Sl_freeze.2 ((Sl_freeze.2 sp).app L)) L')⟩)
  simp only [tuz, chkE, show (hL s3E t4E 2).length = 2 from rfl, f1, and_self, if_true, iV, iB, List.cons_ne_nil, if_false, reduceCtorEq] at k22
  rw [hrdE] at k67 k22
  simp only [s3E, t4E, cS, enc3, enc4, enc6, List.flatMap_cons, List.flatMap_nil, List.cons_append, List.nil_append, List.append_nil, cI, List.map_cons, List.map_nil, List.length_cons, List.length_nil] at k67 k22
  simp only [tmC, tpE, tsE, z12, nmE] at k66 k22
  have k23 := fun (L : Heap) (b' b2 lim : Nat) (hg : Heap.get (h.freeze ++ L) b' = some ⟨cI [0], true⟩) (hg2 : Heap.get (h.freeze ++ L) b2 = some ⟨cI [0], true⟩) => c23 (d := d + 8) (lim := lim) (h := h.freeze ++ L) (a := [0]) (b := [0]) (v := .slice (some ⟨b', 0, none⟩) 1 1) (w := .slice (some ⟨b2, 0, none⟩) 1 1) (SlI'_own hg rfl) (SlI'_own hg2 rfl) (by decide) (by decide)
  simp only [cI, List.map_cons, List.map_nil] at k23
  refine call1 fn35 rfl (by simp [ef35]) ?_
  simp at k66 k22 k67 k23
  simp [ef35, k66, k22, k67, k23, Nat.add_assoc]
end Z.U
end Go.Abs
