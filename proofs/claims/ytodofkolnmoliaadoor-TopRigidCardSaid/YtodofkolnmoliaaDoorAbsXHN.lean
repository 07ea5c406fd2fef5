/- Chapter 3: reactions. -/
import Derived.Test.YtodofkolnmoliaaDoorAbsXHM
set_option linter.unusedSimpArgs false
set_option linter.unusedVariables false
/- Chapter 3: reactions. -/
namespace Go.Abs
namespace X
set_option maxRecDepth 100000
set_option maxHeartbeats 0
theorem c101 {d lim : Nat} {h : Heap} {v : Value} {L : List XR} {l r c : Int} (s : SlR h v L) (G : GdOk l r c) (O : LdOk L l r) : E.call (d + 3) lim 101 [v3 l r c, v] h = some (i64 0, h) := by
  have k153 := fun lim hh => c153 (d := d) (lim := lim) (h := hh) G
  have k154 := fun lim A => c154 (d := d) (lim := lim) ((Sl_freeze.2 s).app A) O
  refine call1 fn101 rfl (by simp [ef101]) ?_
  simp [ef101, k153, k154]
abbrev nwV (n : Nat) (l : List XR) : Value := if l.length = 0 then .slice none 0 0 else .slice (some ⟨n, 0, none⟩) l.length 2
abbrev nwK (l : List XR) : List (Option Blk) := if l.length = 0 then [] else [some ⟨cS encR l, true⟩]
abbrev bmV (l r c : Int) (f : Value) : Value := .agg #[i64 l, i64 r, i64 c, f]
theorem snocR {l : List XR} {i : Nat} (h : i < l.length) : cS encR (l.take i) ++ [i64 (atR l i).1, i64 (atR l i).2] = cS encR (l.take (i + 1)) := by
  rw [List.take_succ_eq_append_getElem h, atR_get h]
  simp [cS, encR]
theorem c102 {d lim : Nat} {h : Heap} {v : Value} {L : List XR} {l r c : Int} (s : SlR h v L) (few : L.length ≤ 100) : E.call (d + 1) lim 102 [v3 l r c, v] h = some (bmV l r c (nwV h.length L), h ++ nwK L) := by
  unfold nwV nwK
  refine call_pure fn102 rfl (by simp [ef102]) ?_
  rcases Nat.eq_zero_or_pos L.length with z | z
  · have rr := s.rules2
    have so := s.own
    have el : L = [] := List.eq_nil_of_length_eq_zero z
    subst el
    rcases s.low with rfl | ⟨bv, ov, mv, tv, rfl, hbv⟩
    · simp [ef102]
      rw [wpC_unroll, wpI_step (by simp [E_fuel'])]
      simp [St.tidy]
    · obtain rfl : mv = 0 := by simpa using s.len
      simp [ef102]
      rw [wpC_unroll, wpI_step (by simp [E_fuel'])]
      simp [St.tidy, hbv]
  have zi : L.length ≠ 0 := by omega
  have ne : L ≠ [] := fun e => zi (by rw [e]; rfl)
  obtain ⟨bv, ov, rfl⟩ : ∃ bv ov, v = .slice (some ⟨bv, ov, none⟩) L.length 2 := ⟨_, _, s.addr zi⟩
  have hbv := s.lt zi
  have rr := s.rules2
  simp only [slB_some, slO_some] at rr hbv
  simp [ef102, rr]
  refine wpC_loop (fun y st => ∃ i, y = L.length - i ∧ i ≤ L.length ∧ st = ⟨[(4, .pointer (some ⟨h.length, 0, none⟩)), (5, .pointer (some ⟨h.length + 1, 0, none⟩)), (10, .slice (some ⟨bv, ov, none⟩) L.length 2), (11, i64 (L.length : Int)), (12, i64 (i : Nat))],
    h.freeze ++ (some ⟨[i64 0, i64 0, i64 0, .slice none 0 0], true⟩ :: some ⟨[i64 l, i64 r, i64 c, if i = 0 then .slice none 0 0 else .slice (some ⟨h.length + 2, 0, none⟩) i 2], true⟩ :: if i = 0 then [] else [some ⟨cS encR (L.take i), true⟩])⟩) L.length (by show L.length < 2 ^ 64; omega) ?_ ?_
  · simp [St.tidy, hbv]
    exact ⟨0, by omega, by omega, rfl, rfl⟩
  · rintro y hy _ ⟨i, rfl, hi, rfl⟩
    by_cases hlt : i < L.length
    · have w1' := w1 (i := i) (by omega)
      simp only [W] at w1'
      have hlti : (i : Int) < L.length := by omega
      have p := cR_part hlt
      have k2 : i * 2 + 2 ≤ L.length * 2 := by omega
      have sn := snocR hlt
      have len : (cS encR (L.take i)).length = i * 2 := by rw [cR_len, List.length_take]; omega
      have pl := cR_plain (L.take i)
      generalize hu : atR L i = u at *
      rcases Nat.eq_zero_or_pos i with zz | zz
      · subst zz
        rw [show cS encR (L.take 0) = [] from rfl, List.nil_append] at sn
        have l0 : 0 < L.length := by omega
        have pp := fun A => ((Sl_freeze.2 s).app A).part (k := 0) (m := 2) (by omega) (by omega)
        simp only [Nat.zero_mul, List.drop_zero] at p
        simp only [slB_some, slO_some, Nat.add_zero, List.drop_zero, p] at pp
        simp [l0, ne, hlt, Nat.not_le.2 l0, hlti, rr, pp, E.append, E.added, Value.oneCell', maxLen, zeros, St.tidy, hbv]
        exact ⟨L.length - 1, by omega, 1, by omega, by omega, by omega, by rw [if_neg (by omega)], by rw [if_neg (by omega)]; exact congrArg (fun c => [some (Blk.mk c true)]) sn⟩
      · have zi : i ≠ 0 := by omega
        simp [hlt, Nat.not_le.2 hlt, hlti, zi, rr, p, k2, len, E.append, E.added, Value.oneCell', maxLen, zeros, St.tidy, hbv, pl, w1', Nat.add_assoc]
        exact ⟨⟨by omega, by omega⟩, L.length - (i + 1), by omega, i + 1, by omega, by omega, by omega, by rw [if_neg (by omega)], by rw [if_neg (by omega)]; exact congrArg (fun c => [some (Blk.mk c true)]) sn⟩
    · obtain rfl : i = L.length := by omega
      have pl := cR_plain L
      rw [List.take_of_length_le (Nat.le_refl _)]
      simp [zi, ne, rr, pl, hbv]
def rF0 (L : List XR) (r : Int) : Nat → Int
  | 0 => 0
  | i + 1 => rF0 L r i + (atR L i).2 * (r - (atR L i).1)
def rF1 (L : List XR) (l : Int) : Nat → Int
  | 0 => 0
  | i + 1 => rF1 L l i + (atR L i).2 * ((atR L i).1 - l)
theorem rF_bd {L : List XR} {l r c : Int} (G : GdOk l r c) (O : LdOk L l r) : ∀ i, i ≤ L.length → (-(i * 1000000 * (r - l)) ≤ rF0 L r i ∧ rF0 L r i ≤ i * 1000000 * (r - l)) ∧ -(i * 1000000 * (r - l)) ≤ rF1 L l i ∧ rF1 L l i ≤ i * 1000000 * (r - l)
  | 0, _ => by simp [rF0, rF1]
  | i + 1, hi => by
    have ih := rF_bd G O i (by omega)
    obtain ⟨⟨b1, b2⟩, b3, b4⟩ := O.b i (by omega)
    have lr := G.lr
    have a := absM (a := (atR L i).2) (b := r - (atR L i).1) (A := 1000000) (B := r - l) (by omega) (by omega) (by omega) (by omega)
    have b := absM (a := (atR L i).2) (b := (atR L i).1 - l) (A := 1000000) (B := r - l) (by omega) (by omega) (by omega) (by omega)
    have e : ((i + 1 : Nat) : Int) * 1000000 * (r - l) = i * 1000000 * (r - l) + 1000000 * (r - l) := by
      rw [show ((i + 1 : Nat) : Int) = (i : Int) + 1 by omega, Int.add_mul, Int.add_mul]; omega
    simp only [rF0, rF1]
    rw [e]
    generalize (atR L i).2 * (r - (atR L i).1) = y at *
    generalize (atR L i).2 * ((atR L i).1 - l) = z at *
    generalize (i : Int) * 1000000 * (r - l) = q at *
    omega
end X
end Go.Abs
/- Chapter 3: reactions: the program. -/
namespace Go.Abs
namespace X
set_option maxRecDepth 100000
set_option maxHeartbeats 0
theorem c103 {d lim : Nat} {h : Heap} {f : Value} {L : List XR} {l r c : Int} (s : SlR h f L) (G : GdOk l r c) (O : LdOk L l r) : E.call (d + 1) lim 103 [bmV l r c f] h = some (.tuple #[i64 (rF0 L r L.length), i64 (rF1 L l L.length)], h) := by
  have rr := s.rules2
  have so := s.own
  have few := O.few
  have g1 := G.bl
  have g2 := G.br
  have g3 := G.lr
  refine call1 fn103 rfl (by simp [ef103]) ?_
  simp [ef103, rr]
  refine wpC_loop (fun y st => ∃ i, y = L.length - i ∧ i ≤ L.length ∧ st = ⟨[(1, .pointer (some ⟨h.length, 0, none⟩)), (2, i64 (rF0 L r i)), (3, i64 (rF1 L l i)), (7, f), (8, i64 (L.length : Int)), (9, i64 (i : Nat))],
    h.freeze ++ [some ⟨[i64 l, i64 r, i64 c, f], true⟩]⟩) L.length (by show L.length < 2 ^ 64; omega) ?_ ?_
  · simp [-collect_own1, St.tidy, collect_box, so, rr]
    exact ⟨0, by omega, by omega, rfl, rfl, rfl⟩
  · rintro y hy _ ⟨i, rfl, hi, rfl⟩
    by_cases hlt : i < L.length
    · have w1' := w1 (i := i) (by omega)
      simp only [W] at w1'
      have hlti : (i : Int) < L.length := by omega
      have p := cR_part hlt
      have k2 : i * 2 + 2 ≤ L.length * 2 := by omega
      obtain ⟨⟨b1, b2⟩, b3, b4⟩ := O.b i hlt
      have bd := rF_bd G O i (by omega)
      have bd2 := rF_bd G O (i + 1) (by omega)
      have m1 : (i : Int) * 1000000 * (r - l) ≤ 100000000 * 40000 := Int.mul_le_mul (by omega) (by omega) (by omega) (by omega)
      have m2 : ((i + 1 : Nat) : Int) * 1000000 * (r - l) ≤ 100000000 * 40000 := Int.mul_le_mul (by omega) (by omega) (by omega) (by omega)
      have a := absM (a := (atR L i).2) (b := r - (atR L i).1) (A := 1000000) (B := 40000) (by omega) (by omega) (by omega) (by omega)
      have b := absM (a := (atR L i).2) (b := (atR L i).1 - l) (A := 1000000) (B := 40000) (by omega) (by omega) (by omega) (by omega)
      have e1 : rF0 L r (i + 1) = rF0 L r i + (atR L i).2 * (r - (atR L i).1) := rfl
      have e2 : rF1 L l (i + 1) = rF1 L l i + (atR L i).2 * ((atR L i).1 - l) := rfl
      have u1 : IntKind.wrap .i64 (r - (atR L i).1) = r - (atR L i).1 := wrap_eq (by omega) (by omega)
      have u2 : IntKind.wrap .i64 ((atR L i).1 - l) = (atR L i).1 - l := wrap_eq (by omega) (by omega)
      have u3 : IntKind.wrap .i64 ((atR L i).2 * (r - (atR L i).1)) = (atR L i).2 * (r - (atR L i).1) := wrap_eq (by omega) (by omega)
      have u4 : IntKind.wrap .i64 ((atR L i).2 * ((atR L i).1 - l)) = (atR L i).2 * ((atR L i).1 - l) := wrap_eq (by omega) (by omega)
      have u5 : IntKind.wrap .i64 (rF0 L r i + (atR L i).2 * (r - (atR L i).1)) = rF0 L r (i + 1) := by rw [← e1, wrap_eq (by omega) (by omega)]
      have u6 : IntKind.wrap .i64 (rF1 L l i + (atR L i).2 * ((atR L i).1 - l)) = rF1 L l (i + 1) := by rw [← e2, wrap_eq (by omega) (by omega)]
      generalize hu : atR L i = u at *
      rcases Nat.eq_zero_or_pos i with z | z
      · subst z
        have pp := fun A => ((Sl_freeze.2 s).app A).part (k := 0) (m := 2) (by omega) (by omega)
        simp only [Nat.zero_mul, List.drop_zero] at p
        simp only [Nat.add_zero, List.drop_zero, p] at pp
        have l0 : 0 < L.length := by omega
        have ne : L ≠ [] := fun e => by rw [e] at l0; exact absurd l0 (by simp)
        simp [-collect_own1, l0, ne, hlt, hlti, rr, pp, u1, u2, u3, u4, u5, u6, St.tidy, collect_box, so]
        exact ⟨L.length - 1, by omega, 1, by omega, by omega, rfl, rfl, rfl⟩
      · simp [-collect_own1, hlt, hlti, rr, k2, p, u1, u2, u3, u4, u5, u6, w1', St.tidy, collect_box, so]
        exact ⟨L.length - (i + 1), by omega, i + 1, by omega, by omega, rfl, rfl, by omega⟩
    · obtain rfl : i = L.length := by omega
      simp
theorem c155 {d lim : Nat} {h : Heap} {a b : Int} (ha : R64 a) (hb : R64 b) : E.call (d + 1) lim 155 [i64 a, i64 b] h = some (i64 (gcdL a b), h) := by
  refine call1 fn155 rfl (by simp [ef155]) ?_
  simp [ef155]
  refine wpC_loop (fun n st => ∃ x y : Int, gcdL x y = gcdL a b ∧ n = y.natAbs ∧ R64 x ∧ R64 y ∧ st = ⟨[(0, .int .i64 x), (1, .int .i64 y)], h.freeze⟩) b.natAbs (by unfold R64 at hb; show _ < 2 ^ 64; omega) ?_ ?_
  · simp [St.tidy]
    exact ⟨a, b, rfl, rfl, ha, hb, rfl, rfl⟩
  · rintro m hm _ ⟨x, y, hxy, rfl, hx, hyr, rfl⟩
    by_cases hy : y = 0
    · subst hy
      simp [St.tidy]
      rw [← hxy]
      unfold gcdL
      simp
      unfold R64 at hx
      rw [wrapD]
      split <;> split <;> omega
    · simp [St.tidy, hy]
      have hq := Int.natAbs_tmod x y
      have hl := qmod_lt (a := x) hy
      refine ⟨_, hl, y, qmod x y, ?_, rfl, hyr, ?_, rfl, rfl⟩
      · rw [← hxy]; conv => rhs; unfold gcdL
        rw [if_neg hy]
      · unfold R64 at hyr ⊢
        omega
theorem gcd_w {n w : Int} (hn : R64 n) (hw : 1 ≤ w ∧ w ≤ 40000) : 1 ≤ gcdL n w ∧ gcdL n w ≤ w ∧ (gcdL n w ∣ n) ∧ (gcdL n w ∣ w) := by
  have p : 0 < Int.gcd n w := Int.gcd_pos_of_ne_zero_right _ (by omega)
  have d1 : (Int.gcd n w : Int) ∣ n := Int.gcd_dvd_left ..
  have d2 : (Int.gcd n w : Int) ∣ w := Int.gcd_dvd_right ..
  have le := Int.le_of_dvd (by omega) d2
  rw [gcdL_eq hn ⟨by omega, by omega⟩, wrap_eq (by omega) (by omega)]
  exact ⟨by omega, le, d1, d2⟩
def lwV (n w : Int) : Value := .agg #[i64 (qdiv n (gcdL n w)), i64 (qdiv w (gcdL n w))]
theorem qdiv_bd {n g : Int} (hn : -10000000000000 ≤ n ∧ n ≤ 10000000000000) (hg : 1 ≤ g) : IntKind.wrap .i64 (qdiv n g) = qdiv n g := by
  have : (n.tdiv g).natAbs ≤ n.natAbs := by rw [Int.natAbs_tdiv]; exact Nat.div_le_self _ _
  unfold qdiv
  exact wrap_eq (by omega) (by omega)
theorem c104 {d lim : Nat} {h : Heap} {n w : Int} (hn : -10000000000000 ≤ n ∧ n ≤ 10000000000000) (hw : 1 ≤ w ∧ w ≤ 40000) : E.call (d + 2) lim 104 [i64 n, i64 w] h = some (lwV n w, h) := by
  have k := fun lim hh => c155 (d := d) (lim := lim) (h := hh) (a := n) (b := w) ⟨by omega, by omega⟩ ⟨by omega, by omega⟩
  have g := gcd_w (n := n) (w := w) ⟨by omega, by omega⟩ hw
  have q1 := qdiv_bd (n := n) hn g.1
  have q2 := qdiv_bd (n := w) (by omega) g.1
  unfold lwV
  generalize gcdL n w = G at *
  have ne : G ≠ 0 := by omega
  refine call1 fn104 rfl (by simp [ef104]) ?_
  simp [ef104, k, ne, q1, q2]
theorem c105 {d lim : Nat} {h : Heap} {f : Value} {l r c : Int} (G : GdOk l r c) : E.call (d + 1) lim 105 [bmV l r c f] h = some (i64 (r - l), h) := by
  have g1 := G.bl
  have g2 := G.br
  have u : IntKind.wrap .i64 (r - l) = r - l := wrap_eq (by omega) (by omega)
  refine call1 fn105 rfl (by simp [ef105]) ?_
  simp [ef105, u]
theorem c49 {d lim : Nat} {h : Heap} {v : Value} {L : List XR} {l r c : Int} (s : SlR h v L) (G : GdOk l r c) (O : LdOk L l r) :
    E.call (d + 4) lim 49 [v3 l r c, v] h = some (.tuple #[.agg #[i64 (qdiv (rF0 L r L.length) (gcdL (rF0 L r L.length) (r - l))), i64 (qdiv (r - l) (gcdL (rF0 L r L.length) (r - l))), i64 (qdiv (rF1 L l L.length) (gcdL (rF1 L l L.length) (r - l))), i64 (qdiv (r - l) (gcdL (rF1 L l L.length) (r - l)))], i64 0], h) := by
  have few := O.few
  have g1 := G.bl
  have g2 := G.br
  have g3 := G.lr
  have bd := rF_bd G O L.length (by omega)
  have m1 : (L.length : Int) * 1000000 * (r - l) ≤ 100000000 * 40000 := Int.mul_le_mul (by omega) (by omega) (by omega) (by omega)
  have k101 := fun lim A => c101 (d := d) (lim := lim) ((Sl_freeze.2 s).app A) G O
  have k102 := fun lim A => c102 (d := d + 2) (lim := lim) (l := l) (r := r) (c := c) ((Sl_freeze.2 s).app A) few
  have k104 := fun lim hh => c104 (d := d + 1) (lim := lim) (h := hh) (n := rF0 L r L.length) (w := r - l) (by omega) (by omega)
  have k104' := fun lim hh => c104 (d := d + 1) (lim := lim) (h := hh) (n := rF1 L l L.length) (w := r - l) (by omega) (by omega)
  have k105 := fun lim hh f => c105 (d := d + 2) (lim := lim) (h := hh) (f := f) G
  unfold lwV at k104 k104'
  refine call1 fn49 rfl (by simp [ef49]) ?_
  unfold nwV nwK at k102
  rcases Nat.eq_zero_or_pos L.length with z | z
  · have el : L = [] := List.eq_nil_of_length_eq_zero z
    subst el
    have gn : ∀ hh : Heap, SlR hh (.slice none 0 0) [] := fun hh => ⟨rfl, rfl, fun q => absurd rfl q, .inl rfl, fun k hk => by simp at hk⟩
    have k103 := fun lim hh => c103 (d := d + 2) (lim := lim) (gn hh) G O
    simp at k102 k103 k104 k104'
    simp [ef49, k101, k102, k103, k104, k104', k105]
  · have zi : L.length ≠ 0 := by omega
    simp only [if_neg zi] at k102
    have k103 := fun lim T2 T => c103 (d := d + 2) (lim := lim) (ownR (h := h) (l := L) [T2, T, some ⟨cS encR L, true⟩] (k := 2) rfl) G O
    have k103' := fun lim T2 T T3 => c103 (d := d + 2) (lim := lim) (ownR (h := h) (l := L) [T2, T, some ⟨cS encR L, true⟩, T3] (k := 2) rfl) G O
    simp [ef49, k101, k102, k103, k103', k104, k104', k105, Nat.add_assoc]
end X
end Go.Abs
/- Chapter 3: reactions balance: plain. -/
namespace Go.Abs
namespace X
set_option maxRecDepth 100000
set_option maxHeartbeats 0
def tF (L : List XR) : Nat → Int
  | 0 => 0
  | i + 1 => tF L i + (atR L i).2
def gF (L : List XR) (p : Int) : Nat → Int
  | 0 => 0
  | i + 1 => gF L p i + ((atR L i).1 - p) * (atR L i).2
theorem rF_sum (L : List XR) (l r : Int) : ∀ i, rF0 L r i + rF1 L l i = (r - l) * tF L i
  | 0 => by simp [rF0, rF1, tF]
  | i + 1 => by
    have ih := rF_sum L l r i
    simp only [rF0, rF1, tF]
    generalize (atR L i).1 = x
    generalize (atR L i).2 = f
    grind
theorem rF_mom (L : List XR) (l r p : Int) : ∀ i, (l - p) * rF0 L r i + (r - p) * rF1 L l i = (r - l) * gF L p i
  | 0 => by simp [rF0, rF1, gF]
  | i + 1 => by
    have ih := rF_mom L l r p i
    simp only [rF0, rF1, gF]
    generalize (atR L i).1 = x
    generalize (atR L i).2 = f
    grind
def frT (r R1 : Int) (L : List XR) : List XR := (r, R1) :: L.map fun p => (p.1, -p.2)
def frL (l r R0 R1 : Int) (L : List XR) : List XR := (l, R0) :: frT r R1 L
theorem frT_len (r R1 : Int) (L : List XR) : (frT r R1 L).length = L.length + 1 := by simp [frT]
theorem frL_len (l r R0 R1 : Int) (L : List XR) : (frL l r R0 R1 L).length = L.length + 2 := by simp [frL, frT_len]
theorem frT_at (r R1 : Int) {L : List XR} {i : Nat} (h : i < L.length) : atR (frT r R1 L) (i + 1) = ((atR L i).1, -(atR L i).2) := by
  unfold atR frT
  simp [List.getElem?_map, List.getElem?_eq_getElem h]
theorem frL_at (l r R0 R1 : Int) (L : List XR) (i : Nat) : atR (frL l r R0 R1 L) (i + 1) = atR (frT r R1 L) i := by
  unfold atR frL; simp
theorem sFT (r R1 : Int) (L : List XR) : ∀ i, i ≤ L.length → sF (frT r R1 L) (i + 1) = R1 - tF L i
  | 0, _ => by simp [sF, tF, atR, frT]
  | i + 1, hi => by
    have ih := sFT r R1 L i (by omega)
    rw [sF, ih, frT_at r R1 (by omega)]
    simp only [tF]; omega
theorem mFT (r R1 p : Int) (L : List XR) : ∀ i, i ≤ L.length → mF (frT r R1 L) p (i + 1) = (r - p) * R1 - gF L p i
  | 0, _ => by simp [mF, gF, atR, frT]
  | i + 1, hi => by
    have ih := mFT r R1 p L i (by omega)
    rw [mF, ih, frT_at r R1 (by omega)]
    simp only [gF]
    rw [Int.mul_neg]; omega
theorem sFL (l r R0 R1 : Int) (L : List XR) : ∀ i, sF (frL l r R0 R1 L) (i + 1) = R0 + sF (frT r R1 L) i
  | 0 => by simp [sF, atR, frL]
  | i + 1 => by
    have ih := sFL l r R0 R1 L i
    rw [sF, ih, frL_at]; simp only [sF]; omega
theorem mFL (l r R0 R1 p : Int) (L : List XR) : ∀ i, mF (frL l r R0 R1 L) p (i + 1) = (l - p) * R0 + mF (frT r R1 L) p i
  | 0 => by simp [mF, atR, frL]
  | i + 1 => by
    have ih := mFL l r R0 R1 p L i
    rw [mF, ih, frL_at]; simp only [mF]; omega
theorem qdiv_1 {w g : Int} (hw : 1 ≤ w) (hg : 1 ≤ g) (hd : g ∣ w) (h : qdiv w g = 1) : g = w := by
  obtain ⟨k, rfl⟩ := hd
  unfold qdiv at h
  rw [Int.mul_tdiv_cancel_left _ (by omega)] at h
  subst h; omega
theorem qdiv_dvd {n g : Int} (hg : 1 ≤ g) (hd : g ∣ n) : n = g * qdiv n g := by
  obtain ⟨k, rfl⟩ := hd
  unfold qdiv
  rw [Int.mul_tdiv_cancel_left _ (by omega)]
theorem qdiv_pos {w g : Int} (hw : 1 ≤ w) (hg : 1 ≤ g) (hd : g ∣ w) : 0 < qdiv w g := by
  obtain ⟨k, rfl⟩ := hd
  unfold qdiv
  rw [Int.mul_tdiv_cancel_left _ (by omega)]
  rcases Int.lt_or_le 0 k with z | z
  · exact z
  · have := Int.mul_nonpos_of_nonneg_of_nonpos (a := g) (b := k) (by omega) z; omega
theorem cancel_w {w a b : Int} (hw : 1 ≤ w) (h : w * a = w * b) : a = b := Int.eq_of_mul_eq_mul_left (by omega) h
theorem absW {w R B : Int} (hw : 1 ≤ w) (h1 : -(B * w) ≤ w * R) (h2 : w * R ≤ B * w) : -B ≤ R ∧ R ≤ B := by
  have e1 : w * R ≤ w * B := by rw [Int.mul_comm w B]; exact h2
  have e2 : w * (-B) ≤ w * R := by rw [Int.mul_neg, Int.mul_comm w B]; exact h1
  exact ⟨Int.le_of_mul_le_mul_left e2 (by omega), Int.le_of_mul_le_mul_left e1 (by omega)⟩
/-- What holds of whole reactions. -/
structure RigOk (L : List XR) (l r R0 R1 : Int) : Prop where
  fr : FrOk (frL l r R0 R1 L)
  frt : FrOk (frT r R1 L)
  sum : R0 + R1 = tF L L.length
  mom : ∀ p, (l - p) * R0 + (r - p) * R1 = gF L p L.length
theorem RigOk.of {L : List XR} {l r c R0 R1 : Int} (G : GdOk l r c) (O : LdOk L l r) (few : L.length ≤ 12) (h0 : rF0 L r L.length = (r - l) * R0) (h1 : rF1 L l L.length = (r - l) * R1) : RigOk L l r R0 R1 := by
  have g1 := G.bl
  have g2 := G.br
  have g3 := G.lr
  have bd := rF_bd G O L.length (by omega)
  have sm := rF_sum L l r L.length
  have mm := fun p => rF_mom L l r p L.length
  rw [h0, h1] at bd sm mm
  have a0 := absW (w := r - l) (R := R0) (B := (L.length : Int) * 1000000) (by omega) bd.1.1 bd.1.2
  have a1 := absW (w := r - l) (R := R1) (B := (L.length : Int) * 1000000) (by omega) bd.2.1 bd.2.2
  have T : FrOk (frT r R1 L) := by
    refine ⟨by rw [frT_len]; omega, fun i hi => ?_⟩
    rw [frT_len] at hi
    cases i with
    | zero => simp only [atR, frT, List.getElem?_cons_zero, Option.getD_some]; omega
    | succ i =>
      rw [frT_at r R1 (by omega)]
      have := O.b i (by omega)
      simp only; omega
  refine ⟨⟨by rw [frL_len]; omega, fun i hi => ?_⟩, T, ?_, fun p => ?_⟩
  · rw [frL_len] at hi
    cases i with
    | zero => simp only [atR, frL, List.getElem?_cons_zero, Option.getD_some]; omega
    | succ i =>
      rw [frL_at]
      exact T.2 i (by rw [frT_len]; omega)
  · exact cancel_w (w := r - l) (by omega) (by rw [← sm, Int.mul_add])
  · exact cancel_w (w := r - l) (by omega) (by rw [← mm p]; grind)
theorem RigOk.s {L : List XR} {l r R0 R1 : Int} (K : RigOk L l r R0 R1) : sF (frL l r R0 R1 L) (frL l r R0 R1 L).length = 0 ∧ -(sF (frT r R1 L) (frT r R1 L).length) = R0 := by
  have e := K.sum
  rw [frL_len, frT_len, sFL, sFT r R1 L L.length (by omega)]
  omega
theorem RigOk.m {L : List XR} {l r R0 R1 : Int} (K : RigOk L l r R0 R1) (p : Int) : mF (frL l r R0 R1 L) p (frL l r R0 R1 L).length = 0 := by
  have e := K.mom p
  rw [frL_len, mFL, mFT r R1 p L L.length (by omega)]
  omega
theorem RigOk.mt {L : List XR} {l r R0 R1 : Int} (K : RigOk L l r R0 R1) : mF (frT r R1 L) l (frT r R1 L).length = 0 := by
  have e := K.mom l
  rw [Int.sub_self, Int.zero_mul] at e
  rw [frT_len, mFT r R1 l L L.length (by omega)]
  omega
end X
end Go.Abs
/- The law TopRigid. -/
namespace Go.Abs
namespace X
set_option maxRecDepth 100000
set_option maxHeartbeats 0
theorem cF_plain (l : List XR) : (cS encF l).all plainV = true := by simp [cS, List.all_flatMap, encF, plainV]
theorem ownF {h : Heap} {l : List XR} (A : List (Option Blk)) {k : Nat} (hk : A[k]? = some (some ⟨cS encF l, true⟩)) : SlF (h.freeze ++ A) (.slice (some ⟨h.length + k, 0, none⟩) l.length 6) l :=
  Sl_own (f := encF) (es := 6) (fun _ => rfl) (by rw [hget_base (by simp), hk]; rfl) rfl
theorem ownFT {h : Heap} {p : XR} {l : List XR} (A : List (Option Blk)) {k : Nat} (hk : A[k]? = some (some ⟨cS encF (p :: l), true⟩)) : SlF (h.freeze ++ A) (.slice (some ⟨h.length + k, 6, none⟩) l.length 6) l := by
  have e : (h.freeze ++ A : Heap).get (h.length + k) = some ⟨cS encF (p :: l), true⟩ := by rw [hget_base (by simp), hk]; rfl
  refine ⟨by simp, by rw [cS_len (f := encF) (es := 6) (fun _ => rfl)], fun _ => rfl, .inr ⟨h.length + k, 6, l.length, 6, rfl, Heap.get_lt e⟩, fun j hj => ?_⟩
  simp only [slB_some, slO_some]
  rw [cell_get e]
  show (encF p ++ cS encF l)[6 + j]? = _
  rw [List.getElem?_append_right (by simp [encF])]
  congr 1
  simp [encF]
def fLi (l r R0 R1 : Int) (L : List XR) (i : Nat) : List XR := (frL l r R0 R1 L).take (i + 2)
theorem fLi_snoc (l r R0 R1 : Int) {L : List XR} {i : Nat} (h : i < L.length) : cS encF (fLi l r R0 R1 L i) ++ [i64 (atR L i).1, i64 0, i64 0, i64 0, i64 (-(atR L i).2), i64 0] = cS encF (fLi l r R0 R1 L (i + 1)) := by
  have hl : i + 2 < (frL l r R0 R1 L).length := by rw [frL_len]; omega
  unfold fLi
  rw [show i + 1 + 2 = (i + 2) + 1 by omega, List.take_succ_eq_append_getElem hl, atR_get hl, show i + 2 = (i + 1) + 1 by omega, frL_at, frT_at r R1 h]
  simp [cS, encF]
theorem fLi_len (l r R0 R1 : Int) {L : List XR} {i : Nat} (h : i ≤ L.length) : (cS encF (fLi l r R0 R1 L i)).length = (i + 2) * 6 := by
  rw [cS_len (f := encF) (es := 6) (fun _ => rfl)]
  unfold fLi
  rw [List.length_take, frL_len]; omega
theorem fLi_0 (l r R0 R1 : Int) (L : List XR) : cS encF (fLi l r R0 R1 L 0) = [i64 l, i64 0, i64 0, i64 0, i64 R0, i64 0, i64 r, i64 0, i64 0, i64 0, i64 R1, i64 0] := by
  simp [fLi, frL, frT, cS, encF]
theorem fLi_all (l r R0 R1 : Int) (L : List XR) : fLi l r R0 R1 L L.length = frL l r R0 R1 L := by
  unfold fLi; rw [List.take_of_length_le]; rw [frL_len]; exact Nat.le_refl _
abbrev q3 (a b c : Int) : Option Blk := some ⟨[i64 a, i64 b, i64 c], true⟩
theorem c9 {d lim : Nat} {h : Heap} {v : Value} {L : List XR} {l r c px py pz : Int} (sp : Pr h) (s : SlR h v L) : E.call (d + 9) lim 9 [v3 l r c, v, v3 px py pz] h = some (.bool true, h) := by
  have rr := s.rules2
  have so := s.own
  have k12 := fun lim A => c12 (d := d) (lim := lim) ((Sl_freeze.2 sp).app A)
  have k46 := fun lim hh => c46 (d := d + 6) (lim := lim) (h := hh) (l := l) (r := r) (c := c)
  have k47 := fun lim A => c47 (d := d + 6) (lim := lim) (l := l) (r := r) ((Sl_freeze.2 s).app A)
  have k48 := fun lim hh => c48 (d := d + 5) (lim := lim) (h := hh) (a := px) (b := py) (c := pz)
  refine call1 fn9 rfl (by simp [ef9]) ?_
  by_cases h12 : 12 < L.length
  · have i1 : (12 : Int) < L.length := by omega
    simp [ef9, k12, rr, h12, i1, Int.not_le.2 i1, Nat.not_le.2 h12]
  have i1 : ¬ (12 : Int) < L.length := by omega
  by_cases e46 : gE l r c ≠ 0
  · simp [ef9, k12, rr, h12, i1, k46, e46, Int.not_lt.1 i1, Nat.not_lt.1 h12]
  have e46' : gE l r c = 0 := by omega
  by_cases e47 : ldE L l r ≠ 0
  · simp [ef9, k12, rr, h12, i1, k46, e46', k47, e47, Int.not_lt.1 i1, Nat.not_lt.1 h12]
  have e47' : ldE L l r = 0 := by omega
  rcases e48 : plB px py pz with _ | _
  · simp [ef9, k12, rr, h12, i1, k46, e46', k47, e47', k48, e48, Int.not_lt.1 i1, Nat.not_lt.1 h12]
  have G := GdOk.of e46'
  have O := LdOk.of e47'
  obtain ⟨px1, py1, pz1⟩ := plB_ok e48
  have g1 := G.bl
  have g2 := G.br
  have g3 := G.lr
  have few : L.length ≤ 12 := by omega
  have bd := rF_bd G O L.length (by omega)
  have m1 : (L.length : Int) * 1000000 * (r - l) ≤ 100000000 * 40000 := Int.mul_le_mul (by omega) (by omega) (by omega) (by omega)
  have k49 := fun lim A => c49 (d := d + 4) (lim := lim) ((Sl_freeze.2 s).app A) G O
  obtain ⟨x1, x2, x3, x4⟩ := gcd_w (n := rF0 L r L.length) (w := r - l) ⟨by omega, by omega⟩ (by omega)
  obtain ⟨y1, y2, y3, y4⟩ := gcd_w (n := rF1 L l L.length) (w := r - l) ⟨by omega, by omega⟩ (by omega)
  have dp0 := qdiv_pos (w := r - l) (by omega) x1 x4
  have dp1 := qdiv_pos (w := r - l) (by omega) y1 y4
  by_cases d0 : qdiv (r - l) (gcdL (rF0 L r L.length) (r - l)) ≠ 1
  · simp [ef9, k12, rr, h12, i1, k46, e46', k47, e47', k48, e48, k49, d0, dp0, dp1, Int.not_lt.1 i1, Nat.not_lt.1 h12]
  have d0' : qdiv (r - l) (gcdL (rF0 L r L.length) (r - l)) = 1 := by omega
  by_cases d1 : qdiv (r - l) (gcdL (rF1 L l L.length) (r - l)) ≠ 1
  · simp [ef9, k12, rr, h12, i1, k46, e46', k47, e47', k48, e48, k49, d0', d1, dp0, dp1, Int.not_lt.1 i1, Nat.not_lt.1 h12]
  have d1' : qdiv (r - l) (gcdL (rF1 L l L.length) (r - l)) = 1 := by omega
  have w0 := qdiv_1 (by omega) x1 x4 d0'
  have w1_ := qdiv_1 (by omega) y1 y4 d1'
  have n0 := qdiv_dvd x1 x3
  have n1 := qdiv_dvd y1 y3
  generalize qdiv (rF0 L r L.length) (gcdL (rF0 L r L.length) (r - l)) = R0 at *
  generalize qdiv (rF1 L l L.length) (gcdL (rF1 L l L.length) (r - l)) = R1 at *
  rw [w0] at n0
  rw [w1_] at n1
  have K := RigOk.of G O few n0 n1
  have ks := K.s
  have km := K.m
  have kt := K.mt
  have len0 := frL_len l r R0 R1 L
  have len1 := frT_len r R1 L
  have gA := fun T T2 => ownF (h := h) (l := frL l r R0 R1 L) [T, T2, some ⟨cS encF (frL l r R0 R1 L), true⟩] (k := 2) rfl
  have gT := fun T T2 T3 => ownFT (h := h) (p := (l, R0)) (l := frT r R1 L) [T, T2, some ⟨cS encF (frL l r R0 R1 L), true⟩, T3] (k := 2) rfl
  have k50 := fun lim T T2 => c50 (d := d + 1) (lim := lim) (gA T T2) K.fr ks.1 (km 0)
  have k51 := fun lim T T2 => c51 (d := d) (lim := lim) (gA T T2) K.fr px1 py1 pz1
  have k52 := fun lim T T2 T3 => c52 (d := d) (lim := lim) (Sl_freeze.2 (gT T T2 T3)) K.frt (px := l) (by omega) kt
  rw [ks.1, km px] at k51
  rw [ks.2] at k52
  simp only [len0, len1, Int.mul_zero] at k50 k51 k52
  have f0 := fLi_0 l r R0 R1 L
  simp [ef9, k12, rr, h12, i1, k46, e46', k47, e47', k48, e48, k49, d0', d1', Int.not_lt.1 i1, Nat.not_lt.1 h12]
  refine wpC_loop (fun y st => ∃ i, y = L.length - i ∧ i ≤ L.length ∧ st = ⟨[(1, v), (3, .pointer (some ⟨h.length, 0, none⟩)), (5, .pointer (some ⟨h.length + 1, 0, none⟩)), (9, .slice (some ⟨h.length + 2, 0, none⟩) (i + 2) 6), (10, i64 (i : Nat))],
    h.freeze ++ [q3 l r c, q3 px py pz, some ⟨cS encF (fLi l r R0 R1 L i), true⟩]⟩) L.length (by show L.length < 2 ^ 64; omega) ?_ ?_
  · simp [-collect_own1, St.tidy, collect_box, so, rr, zeros, fillL]
    exact ⟨0, by omega, by omega, ⟨rfl, rfl⟩, f0.symm⟩
  · rintro y hy _ ⟨i, rfl, hi, rfl⟩
    by_cases hlt : i < L.length
    · have w1' := w1 (i := i) (by omega)
      simp only [W] at w1'
      have hlti : (i : Int) < L.length := by omega
      obtain ⟨a0, a1⟩ := cR_j hlt
      have v0 : ∀ hh, (cS encR L)[i * 2]'hh = .int .i64 (atR L i).1 := fun hh => by have := List.getElem?_eq_getElem hh; rw [a0] at this; exact (Option.some.inj this).symm
      have v1 : ∀ hh, (cS encR L)[i * 2 + 1]'hh = .int .i64 (atR L i).2 := fun hh => by have := List.getElem?_eq_getElem hh; rw [a1] at this; exact (Option.some.inj this).symm
      have k0 : i * 2 < L.length * 2 := by omega
      have k1 : i * 2 + 1 < L.length * 2 := by omega
      have sn := fLi_snoc l r R0 R1 hlt
      have len := fLi_len l r R0 R1 hi
      have pl := cF_plain (fLi l r R0 R1 L i)
      have un := O.b i hlt
      have u1 : IntKind.wrap .i64 (-(atR L i).2) = -(atR L i).2 := wrap_eq (by omega) (by omega)
      generalize hu : atR L i = u at *
      simp [-collect_own1, hlt, Nat.not_le.2 hlt, hlti, rr, k0, k1, a0, a1, v0, v1, u1, len, E.append, E.added, Value.oneCell', maxLen, zeros, St.tidy, collect_box, so, pl, w1', Nat.add_assoc]
      exact ⟨⟨by omega, by omega⟩, L.length - (i + 1), by omega, i + 1, by omega, by omega, ⟨rfl, by omega⟩, sn⟩
    · obtain rfl : i = L.length := by omega
      have pl := cF_plain (frL l r R0 R1 L)
      have cl := fLi_len l r R0 R1 (Nat.le_refl L.length)
      have t6 : (cS encF (frL l r R0 R1 L)).take 6 = [i64 l, i64 0, i64 0, i64 0, i64 R0, i64 0] := by simp [frL, cS, encF]
      rw [fLi_all] at cl ⊢
      simp [E.bound, rr, k50, k51, k52, cl, pl, t6, Nat.add_assoc]
      exact ⟨by omega, by omega⟩
end X
end Go.Abs
