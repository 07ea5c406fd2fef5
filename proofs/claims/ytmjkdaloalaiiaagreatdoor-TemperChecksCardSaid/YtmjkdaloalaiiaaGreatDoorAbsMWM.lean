--
import Derived.Test.YtmjkdaloalaiiaaGreatDoorAbsMV5
import Derived.Test.YtmjkdaloalaiiaaGreatDoorAbsMCM
set_option linter.unusedSimpArgs false
set_option linter.unusedVariables false
namespace Go.Abs
namespace M
set_option maxRecDepth 100000
set_option maxHeartbeats 0
theorem c61 {d lim : Nat} {h : Heap} {l : List UInt8} {c : UInt8} : E.call (d + 2) lim 61 [tx l, tx [c]] h = some (i64 (Lib.indexByte l c), h) := by
 refine call1 fn61 rfl (by simp [ef61]) ?_
 simp [ef61, c78]
theorem c60 {d lim : Nat} {h : Heap} {l : List UInt8} {c : UInt8} : E.call (d + 1) lim 60 [tx l, tx [c]] h = some (i64 ((l.count c : Nat) : Int), h) := rfl
theorem cutB_count (c : UInt8) : ∀ s : List UInt8, (cutB c s).length = s.count c + 1
 | [] => rfl
 | x :: r => by
  have ih := cutB_count c r
  unfold cutB
  by_cases h : x = c
  ·subst h; simp [ih]
  ·rw [if_neg h, List.count_cons_of_ne (fun e => h e)]
   rcases e : cutB c r with _ | ⟨w, ws⟩
   ·exact absurd e (cutB_ne c r)
   ·rw [e] at ih; simpa using ih
def cellW (W : List (List UInt8)) (k : Nat) : List Value := cT W ++ List.replicate k (tx [])
theorem cellW_len (W : List (List UInt8)) (k : Nat) : (cellW W k).length = W.length + k := by simp [cellW, cT_len]
theorem cellW_put (W : List (List UInt8)) (k : Nat) (a : List UInt8) : splice (cellW W (k + 1)) W.length [tx a] = cellW (W ++ [a]) k := by
 have e : W.length = (cT W).length := (cT_len W).symm
 unfold cellW
 rw [e]
 show (cT W ++ List.replicate (k + 1) (tx [])).set (cT W).length (tx a) = _
 rw [List.replicate_succ, List.set_append_right _ _ (Nat.le_refl _), Nat.sub_self, List.set_cons_zero, ← cT_snoc]
 simp
theorem cellW_plain (W : List (List UInt8)) (k : Nat) : (cellW W k).all plainV = true := by
 unfold cellW
 rw [List.all_append, cT_plain']
 simp [plainV]
theorem c39 {d lim : Nat} {h : Heap} {s : List UInt8} {c : UInt8} (hs : s.length < 1000000) :
  E.call (d + 3) lim 39 [tx s, tx [c], i64 0, i64 (-1)] h = some (lVT h.length (cutB c s), h ++ lBT (cutB c s)) := by
 refine call_pure fn39 rfl (by simp [ef39]) ?_
 have cl := cutB_count c s
 have cn : s.count c ≤ s.length := List.count_le_length
 obtain ⟨n, hn⟩ : ∃ n, n = s.count c := ⟨_, rfl⟩
 rw [← hn] at cl cn
 have w1 : IntKind.i64.wrap ((n : Int) + 1) = ((n + 1 : Nat) : Int) := by rw [wrapR (by unfold R64; omega)]; rfl
 have w2 : IntKind.i64.wrap ((s.length : Int) + 1) = ((s.length + 1 : Nat) : Int) := by rw [wrapR (by unfold R64; omega)]; rfl
 have k60 : ∀ H, E.call (d + 2) h.length 60 [tx s, tx [c]] H = some (i64 (n : Int), H) := fun H => by rw [hn]; exact c60
 have nl : ¬ s.length < n := by omega
 have m1 : (0 : Int) ≤ (n : Int) + 1 := by omega
 have m2 : 16 * ((n : Int) + 1) ≤ 140737488355328 := by omega
 have m3 : ((n : Int) + 1) ≤ (maxLen : Int) := by unfold maxLen; omega
 have w3 : IntKind.i64.wrap (n : Int) = (n : Int) := by rw [wrapR (by unfold R64; omega)]
 have z0 : zeros [Value.string ⟨#[]⟩] (n + 1) = cellW [] (n + 1) := rfl
 simp [ef39, k60, w1, w2, E.minmax, nl, m1, m2, m3, w3, z0]
 refine wpC_loop (fun y st => ∃ (i : Nat) (W : List (List UInt8)) (rest : List UInt8), y = n - i ∧ i ≤ n ∧ W.length = i ∧ rest.length ≤ s.length ∧ cutB c s = W ++ cutB c rest ∧ st = ⟨[(0, tx rest), (1, tx [c]), (2, i64 0), (3, i64 (n : Int)), (9, .slice (some ⟨h.length, 0, none⟩) (n + 1) 1), (10, i64 (i : Nat))], h.freeze ++ [some ⟨cellW W (n + 1 - i), true⟩]⟩) n (by show n < 2 ^ 64; omega) ?_ ?_
 ·have cp := cellW_plain [] (n + 1)
  simp [-collect_own1, St.tidy, collect_box, cp]
  exact ⟨0, by omega, by omega, [], rfl, s, Nat.le_refl _, rfl, ⟨rfl, rfl⟩, rfl⟩
 ·rintro y hy _ ⟨i, W, rest, rfl, hi, hW, hr, he, rfl⟩
  have ct := congrArg List.length he
  rw [cl, List.length_append, hW, cutB_count] at ct
  by_cases hlt : i < n
  ·have w1' : IntKind.i64.wrap ((i : Int) + 1) = ((i + 1 : Nat) : Int) := by rw [wrapR (by unfold R64; omega)]; rfl
   obtain ⟨a, b, rfl, na⟩ := mem_split (c := c) (s := rest) (List.count_pos_iff.1 (by omega))
   simp only [List.length_append, List.length_cons] at hr
   rw [cutB_at na] at he
   obtain ⟨k, hk⟩ : ∃ k, n + 1 - i = k + 1 + 1 := ⟨n - 1 - i, by omega⟩
   have hk2 : n + 1 - (i + 1) = k + 1 := by omega
   have ix : ∀ H, E.call (d + 2) h.length 61 [tx (a ++ c :: b), tx [c]] H = some (i64 (a.length : Nat), H) := fun H => by rw [c61 (d := d), idx_at na]
   have wa0 : IntKind.i64.wrap (a.length : Int) = (a.length : Int) := by rw [wrapR (by unfold R64; omega)]
   have wa : IntKind.i64.wrap ((a.length : Int) + 1) = ((a.length + 1 : Nat) : Int) := by rw [wrapR (by unfold R64; omega)]; rfl
   have t : List.drop (a.length + 1) (List.take (a.length + (b.length + 1)) (a ++ c :: b)) = b := by
    rw [List.take_of_length_le (by simp), ← List.drop_drop, List.drop_left]; rfl
   have pt := cellW_put W (k + 1) a
   rw [hW] at pt
   have ln := cellW_len W (k + 1 + 1)
   have cp := cellW_plain (W ++ [a]) (k + 1)
   have hlt' : (i : Int) < (n : Int) := by omega
   have q1 : ¬ (a.length : Int) < 0 := by omega
   have q2 : (i : Int) < (n : Int) + 1 := by omega
   have q3 : i + 1 ≤ W.length + (k + 1 + 1) := by omega
   have q4 : i + 1 ≤ i + (k + 1 + 1) := by omega
   rw [hk]
   simp [-collect_own1, hlt, hlt', ix, w1', wa0, wa, t, q1, q2, q3, q4, pt, ln, hW, St.tidy, collect_box, cp]
   exact ⟨by omega, n - (i + 1), by omega, i + 1, rfl, by omega, W ++ [a], by simp [hW], b, by omega, by rw [he]; simp, ⟨rfl, by omega⟩, by rw [hk2]⟩
  ·obtain rfl : i = n := by omega
   have nc : c ∉ rest := fun q => by have := List.count_pos_iff.2 q; omega
   rw [cutB_no nc] at he
   have hk : i + 1 - i = 0 + 1 := by omega
   have pt := cellW_put W 0 rest
   rw [hW, ← he, show cellW (cutB c s) 0 = cT (cutB c s) by simp [cellW]] at pt
   have ln := cellW_len W (0 + 1)
   have cp := cT_plain' (cutB c s)
   have ne := cutB_ne c s
   have q3 : i + 1 ≤ i + (0 + 1) := by omega
   have w1' : IntKind.i64.wrap ((i : Int) + 1) = ((i + 1 : Nat) : Int) := by rw [wrapR (by unfold R64; omega)]; rfl
   have q4 : (i : Int) < (i : Int) + 1 := by omega
   rw [hk]
   have q5 : (0 : Int) ≤ (i : Int) + 1 := by omega
   simp [-collect_own1, E.bound, w1', q3, q4, q5, pt, ln, hW, collect_box, cp, lVT, lBT, ne, cl]
theorem c17 {d lim : Nat} {h : Heap} {s : List UInt8} {c : UInt8} (hs : s.length < 1000000) :
  E.call (d + 4) lim 17 [tx s, tx [c]] h = some (lVT h.length (cutB c s), h ++ lBT (cutB c s)) := by
 refine call_pure fn17 rfl (by simp [ef17]) ?_
 have k := c39 (d := d) (lim := h.length) (h := h.freeze) (c := c) hs
 have ne := cutB_ne c s
 have cp := cT_plain' (cutB c s)
 simp only [lVT, lBT, if_neg ne] at k ⊢
 simp [-collect_own1, ef17, k, collect_box, cp]
end M
end Go.Abs
namespace Go.Abs
namespace M
set_option maxRecDepth 100000
set_option maxHeartbeats 0
def cmm (s : List UInt8) : Int × Bool := match Lib.atoiAll s with
 | .ok n => (n, decide (dec n = s) && decide (-1000 < n) && decide (n < 1000))
 | .range => (Lib.atoiSat s, false)
 | _ => (0, false)
theorem cmm_is {s : List UInt8} {n : Int} : cmm s = (n, true) ↔ IsNum 3 s n := by
 constructor
 ·intro h
  unfold cmm at h
  split at h
  ·rename_i m e
   simp only [Prod.mk.injEq, Bool.and_eq_true, decide_eq_true_eq] at h
   obtain ⟨rfl, ⟨h1, h2⟩, h3⟩ := h
   exact ⟨h1.symm, by omega⟩
  ·cases h
  ·cases h
 ·rintro ⟨rfl, h⟩
  have h17 : n.natAbs < 10 ^ 17 := Nat.lt_of_lt_of_le h (Nat.pow_le_pow_right (by decide) (by decide))
  unfold cmm
  rw [atoi_dec h17]
  have a1 : -1000 < n := by omega
  have a2 : n < 1000 := by omega
  simp [a1, a2]
theorem c18 {d lim : Nat} {h : Heap} {l : List UInt8} (e : Er h) (hl : l.length < 1000000) : E.call (d + 3) lim 18 [tx l] h = some (.tuple #[i64 (cmm l).1, .bool (cmm l).2], h) := by
 refine call1 fn18 rfl (by simp [ef18]) ?_
 have q := c40 (d := d + 1) (lim := h.length) e.freeze hl
 unfold cmm
 rcases ha : Lib.atoiAll l with v | _ | _
 ·rw [ha] at q
  simp only at q
  have r := R64_ok ha
  by_cases z : dec v = l
  ·by_cases a1 : -1000 < v
   ·simp [ef18, q, c21 r, z, a1]
   ·simp [ef18, q, c21 r, z, a1]
  ·simp [ef18, q, c21 r, z]
 ·rw [ha] at q
  simp only at q
  simp [ef18, q]
 ·rw [ha] at q
  simp only at q
  simp [ef18, q]
def tmL (nm : List UInt8) (P S : Nat → Int) : List Value := tx nm :: ((List.range 12).map (fun i => i64 (P i)) ++ (List.range 12).map (fun i => i64 (S i)))
theorem tmL_tm (nm : List UInt8) (P S : Nat → Int) : Tm (tmL nm P S) ⟨nm.toArray⟩ P S := by
 refine ⟨by simp [tmL], rfl, fun i hi => ?_, fun i hi => ?_⟩
 ·rw [Nat.add_comm]; simp [tmL, hi, List.getElem?_append]
 ·rw [show 13 + i = (12 + i) + 1 by omega]; simp [tmL, hi, List.getElem?_append]
theorem Tm.eq {C : List Value} {nm : List UInt8} {P S : Nat → Int} (t : Tm C ⟨nm.toArray⟩ P S) : C = tmL nm P S := by
 have u := tmL_tm nm P S
 apply List.ext_getElem?
 intro k
 by_cases h0 : k = 0
 ·subst h0; rw [t.name, u.name]
 ·by_cases h1 : k < 13
  ·obtain ⟨i, rfl⟩ : ∃ i, k = 1 + i := ⟨k - 1, by omega⟩
   rw [t.p i (by omega), u.p i (by omega)]
  ·by_cases h2 : k < 25
   ·obtain ⟨i, rfl⟩ : ∃ i, k = 13 + i := ⟨k - 13, by omega⟩
    rw [t.s i (by omega), u.s i (by omega)]
   ·rw [List.getElem?_eq_none (by rw [t.len]; omega), List.getElem?_eq_none (by rw [u.len]; omega)]
def upd1 (P : Nat → Int) (i : Nat) (x : Int) : Nat → Int := fun j => if j = i then x else P j
theorem tmL_setP {nm : List UInt8} {P S : Nat → Int} {i : Nat} {x : Int} (hi : i < 12) : (tmL nm P S).set (1 + i) (i64 x) = tmL nm (upd1 P i x) S := by
 have u := tmL_tm nm P S
 refine Tm.eq ⟨by rw [List.length_set, u.len], by rw [List.getElem?_set_ne (by omega)]; exact u.name, fun j hj => ?_, fun j hj => by rw [List.getElem?_set_ne (by omega)]; exact u.s j hj⟩
 unfold upd1
 by_cases e : j = i
 ·subst e; rw [List.getElem?_set_self (by rw [u.len]; omega), if_pos rfl]
 ·rw [List.getElem?_set_ne (by omega), if_neg e]; exact u.p j hj
theorem tmL_setS {nm : List UInt8} {P S : Nat → Int} {i : Nat} {x : Int} (hi : i < 12) : (tmL nm P S).set (13 + i) (i64 x) = tmL nm P (upd1 S i x) := by
 have u := tmL_tm nm P S
 refine Tm.eq ⟨by rw [List.length_set, u.len], by rw [List.getElem?_set_ne (by omega)]; exact u.name, fun j hj => by rw [List.getElem?_set_ne (by omega)]; exact u.p j hj, fun j hj => ?_⟩
 unfold upd1
 by_cases e : j = i
 ·subst e; rw [List.getElem?_set_self (by rw [u.len]; omega), if_pos rfl]
 ·rw [List.getElem?_set_ne (by omega), if_neg e]; exact u.s j hj
def upto (P : Nat → Int) (i : Nat) : Nat → Int := fun j => if j < i then P j else 0
theorem upto_step (P : Nat → Int) (i : Nat) : upd1 (upto P i) i (P i) = upto P (i + 1) := by
 funext j
 unfold upd1 upto
 by_cases e : j = i
 ·subst e; rw [if_pos rfl, if_pos (by omega)]
 ·rw [if_neg e]
  by_cases q : j < i
  ·rw [if_pos q, if_pos (by omega)]
  ·rw [if_neg q, if_neg (by omega)]
theorem tmL_upto (nm : List UInt8) (P S : Nat → Int) : tmL nm (upto P 12) (upto S 12) = tmL nm P S := by
 have e : ∀ P : Nat → Int, (List.range 12).map (fun i => i64 (upto P 12 i)) = (List.range 12).map (fun i => i64 (P i)) := fun P => by
  apply List.map_congr_left; intro j hj; unfold upto; rw [if_pos (List.mem_range.1 hj)]
 unfold tmL
 rw [e P, e S]
end M
end Go.Abs
namespace Go.Abs
namespace M
set_option maxRecDepth 100000
set_option maxHeartbeats 0
def wdA (ws : List (List UInt8)) (i : Nat) : List UInt8 := (ws[i]?).getD []
theorem wdA_get {ws : List (List UInt8)} {i : Nat} (h : i < ws.length) : (cT ws)[i]? = some (tx (wdA ws i)) := by
 apply cT_get
 unfold wdA
 rw [List.getElem?_eq_getElem h]; rfl
def okR (R : List UInt8 → Int × Bool) (ws : List (List UInt8)) (i : Nat) : Bool := (R (wdA ws (1 + 2 * i))).2 && (R (wdA ws (2 + 2 * i))).2
def pR (R : List UInt8 → Int × Bool) (ws : List (List UInt8)) (i : Nat) : Int := (R (wdA ws (1 + 2 * i))).1
def sR (R : List UInt8 → Int × Bool) (ws : List (List UInt8)) (i : Nat) : Int := (R (wdA ws (2 + 2 * i))).1
def zT : List Value := [.string ⟨#[]⟩, i64 0, i64 0, i64 0, i64 0, i64 0, i64 0, i64 0, i64 0, i64 0, i64 0, i64 0, i64 0, i64 0, i64 0, i64 0, i64 0, i64 0, i64 0, i64 0, i64 0, i64 0, i64 0, i64 0, i64 0]
def prsT (R : List UInt8 → Int × Bool) (s : List UInt8) : List Value × Int :=
 if 300 < s.length then (zT, 8) else if (cutB 32 s).length ≠ 25 then (zT, 7)
 else if (List.range 12).all (okR R (cutB 32 s)) then (if chkT ⟨(wdA (cutB 32 s) 0).toArray⟩ (pR R (cutB 32 s)) (sR R (cutB 32 s)) ≠ 0 then (zT, chkT ⟨(wdA (cutB 32 s) 0).toArray⟩ (pR R (cutB 32 s)) (sR R (cutB 32 s))) else (tmL (wdA (cutB 32 s) 0) (pR R (cutB 32 s)) (sR R (cutB 32 s)), 0))
 else (zT, 7)
theorem wd_len (c : UInt8) : ∀ (s : List UInt8) (w : List UInt8), w ∈ cutB c s → w.length ≤ s.length
 | [], w, h => by simp [cutB] at h; subst h; exact Nat.le_refl _
 | x :: r, w, h => by
  unfold cutB at h
  split at h
  ·rcases List.mem_cons.1 h with q | q
   ·subst q; simp
   ·have := wd_len c r w q; rw [List.length_cons]; omega
  ·rcases e : cutB c r with _ | ⟨v, vs⟩
   ·rw [e] at h; cases h
   ·rw [e] at h
    rcases List.mem_cons.1 h with q | q
    ·have := wd_len c r v (by rw [e]; simp)
     subst q; simp; exact this
    ·have := wd_len c r w (by rw [e]; simp [q]); rw [List.length_cons]; omega
theorem wdA_len (s : List UInt8) (i : Nat) : (wdA (cutB 32 s) i).length ≤ s.length := by
 unfold wdA
 rcases e : (cutB 32 s)[i]? with _ | w
 ·simp
 ·exact wd_len 32 s w (List.mem_of_getElem? e)
theorem tmL_plain (nm : List UInt8) (P S : Nat → Int) : (tmL nm P S).all plainV = true := (tmL_tm nm P S).plain
theorem splice_app : ∀ (b a r : List Value) (n : Nat), a.length = n → ∀ c : List Value, c.length = b.length → splice (a ++ c ++ r) n b = a ++ b ++ r
 | [], a, r, n, _, c, hc => by
  have : c = [] := List.eq_nil_of_length_eq_zero hc
  subst this; rfl
 | v :: b, a, r, n, ha, c, hc => by
  match c, hc with
  | x :: c, hc =>
   have e1 : (a ++ x :: c ++ r).set n v = (a ++ [v]) ++ c ++ r := by
    rw [List.append_assoc, List.set_append_right _ _ (by omega)]
    have : n - a.length = 0 := by omega
    rw [this]; simp
   unfold splice
   rw [e1, splice_app b (a ++ [v]) r (n + 1) (by simp [ha]) c (by simpa using hc)]
   simp
theorem splice_whole {a b : List Value} (h : a.length = b.length) : splice a 0 b = b := by
 have := splice_app b [] [] 0 rfl a h
 simpa using this
theorem zT_spl {C : List Value} (h : C.length = 25) : splice zT 0 C = C := splice_whole (by rw [h]; rfl)
theorem tmL_one (nm : List UInt8) (P S : Nat → Int) : allOne (tmL nm P S) = true := by
 rw [← allOne_eq]; simp [tmL, Value.oneCell']
theorem collect_plain2 {n : Nat} {L : List Value} {h : Heap} {v : Value} (hp : L.all plainV = true) (hv : plainV v = true) : collect n [.tuple #[.agg L.toArray, v]] h = some ([.tuple #[.agg L.toArray, v]], []) := by
 have l1 : lowV n 4 (.tuple #[.agg L.toArray, v]) = (lowV n 3 (.agg L.toArray) && (lowV n 3 v && true)) := by
  conv => lhs; unfold lowV
  simp only [plainV, Bool.false_or]
  rfl
 have l2 : lowV n 3 (.agg L.toArray) = L.all (lowV n 2) := lowV_agg n 2 L.toArray
 have l3 : lowV n 3 v = true := lowV_plain hv
 have f1 : fewV 4 (.tuple #[.agg L.toArray, v]) = (L.map (fewV 2)).sum + (fewV 3 v + 0) := by rw [fewV]; simp [plainV]
 have f3 : [v].all plainV = true := by simp [hv]
 have f2 := plain_few f3 3
 simp only [List.map_cons, List.map_nil, List.sum_cons, List.sum_nil] at f2
 refine collect_low ?_ ?_
 ·show (lowV n 4 (.tuple #[.agg L.toArray, v]) && true) = true
  rw [l1, l2, l3, plain_low hp]; rfl
 ·show decide (fewV 4 (.tuple #[.agg L.toArray, v]) + 0 ≤ 999) = true
  rw [f1, f2, plain_few hp]; decide
end M
end Go.Abs
namespace Go.Abs
namespace M
set_option maxRecDepth 100000
set_option maxHeartbeats 0
theorem c6 {d lim : Nat} {h : Heap} {s : List UInt8} (e : Er h) : E.call (d + 5) lim 6 [tx s] h = some (.tuple #[.agg (prsT cmm s).1.toArray, i64 (prsT cmm s).2], h) := by
 refine call1 fn6 rfl (by simp [ef6]) ?_
 by_cases h3 : 300 < s.length
 ·have h3' : (300 : Int) < s.length := by omega
  simp [ef6, h3', prsT, h3, zT]
 have h3' : ¬ (300 : Int) < s.length := by omega
 have kSp := fun H : Heap => c17 (d := d) (lim := h.length) (h := H) (s := s) (c := 32) (by omega)
 simp only [lVT, lBT, if_neg (cutB_ne 32 s)] at kSp
 by_cases h25 : (cutB 32 s).length = 25
 ·obtain ⟨ws, hws⟩ : ∃ ws, ws = cutB 32 s := ⟨_, rfl⟩
  have wl := wdA_len s
  have pe : prsT cmm s = if (List.range 12).all (okR cmm ws) then (if chkT ⟨(wdA ws 0).toArray⟩ (pR cmm ws) (sR cmm ws) ≠ 0 then (zT, chkT ⟨(wdA ws 0).toArray⟩ (pR cmm ws) (sR cmm ws)) else (tmL (wdA ws 0) (pR cmm ws) (sR cmm ws), 0)) else (zT, 7) := by
   rw [hws]; unfold prsT; rw [if_neg h3, if_neg (by rw [h25]; decide)]
  obtain ⟨res, hres⟩ : ∃ res, res = prsT cmm s := ⟨_, rfl⟩
  rw [← hres]
  rw [pe] at hres
  rw [← hws] at kSp h25 wl
  rw [h25] at kSp
  clear pe hws
  have g0 : (cT ws)[0]? = some (tx (wdA ws 0)) := wdA_get (by omega)
  have zs := zT_spl (C := [tx (wdA ws 0), i64 0, i64 0, i64 0, i64 0, i64 0, i64 0, i64 0, i64 0, i64 0, i64 0, i64 0, i64 0, i64 0, i64 0, i64 0, i64 0, i64 0, i64 0, i64 0, i64 0, i64 0, i64 0, i64 0, i64 0]) rfl
  have cw := cT_plain' ws
  have cl0 : (cT ws).length = 25 := by rw [cT_len, h25]
  simp only [zT] at zs
  simp [ef6, h3', kSp, g0, fillL, zs]
  refine wpC_loop (fun y st => ∃ i : Nat, y = 12 - i ∧ i ≤ 12 ∧ (∀ j, j < i → okR cmm ws j = true) ∧ st = ⟨[(2, .pointer (some ⟨h.length, 0, none⟩)), (4, .slice (some ⟨h.length + 1, 0, none⟩) 25 1), (5, .pointer (some ⟨h.length + 2, 0, none⟩)), (24, i64 (i : Nat))], h.freeze ++ [some ⟨zT, true⟩, some ⟨cT ws, true⟩, some ⟨tmL (wdA ws 0) (upto (pR cmm ws) i) (upto (sR cmm ws) i), true⟩]⟩) 12 (by show 12 < 2 ^ 64; omega) ?_ ?_
  ·simp [-collect_own1, St.tidy, collect_box, cw]
   exact ⟨0, by omega, by omega, fun j hj => by omega, rfl, rfl, rfl⟩
  ·rintro y hy _ ⟨i, rfl, hi, ha, rfl⟩
   have tl : ∀ P S, (tmL (wdA ws 0) P S).length = 25 := fun P S => (tmL_tm _ P S).len
   have tp := tmL_plain (wdA ws 0)
   have zp : zT.all plainV = true := rfl
   by_cases hlt : i < 12
   ·have hlt' : (i : Int) < 12 := by omega
    obtain ⟨k, hk⟩ : ∃ k, k = 2 * i := ⟨_, rfl⟩
    obtain ⟨a, hak⟩ : ∃ a, a = 1 + 2 * i := ⟨_, rfl⟩
    obtain ⟨b, hbk⟩ : ∃ b, b = 2 + 2 * i := ⟨_, rfl⟩
    have wa : IntKind.i64.wrap (2 * (i : Int)) = (k : Int) := by rw [wrapR (by unfold R64; omega)]; omega
    have wb : IntKind.i64.wrap (1 + (k : Int)) = (a : Int) := by rw [wrapR (by unfold R64; omega)]; omega
    have wc : IntKind.i64.wrap (2 + (k : Int)) = (b : Int) := by rw [wrapR (by unfold R64; omega)]; omega
    have w1' : IntKind.i64.wrap ((i : Int) + 1) = ((i + 1 : Nat) : Int) := by rw [wrapR (by unfold R64; omega)]; rfl
    have a25 : a < 25 := by omega
    have b25 : b < 25 := by omega
    have a25' : (a : Int) < 25 := by omega
    have b25' : (b : Int) < 25 := by omega
    have i1 : 1 + i + 1 ≤ 25 := by omega
    have i2 : 13 + i + 1 ≤ 25 := by omega
    have ga : (cT ws)[a]? = some (tx (wdA ws a)) := wdA_get (by omega)
    have gb : (cT ws)[b]? = some (tx (wdA ws b)) := wdA_get (by omega)
    have qa : ∀ L, E.call (d + 4) h.length 18 [tx (wdA ws a)] (h.freeze ++ L) = some (.tuple #[i64 (cmm (wdA ws a)).1, .bool (cmm (wdA ws a)).2], h.freeze ++ L) := fun L => c18 (d := d + 1) e.freeze.app (by have := wl a; omega)
    have qb : ∀ L, E.call (d + 4) h.length 18 [tx (wdA ws b)] (h.freeze ++ L) = some (.tuple #[i64 (cmm (wdA ws b)).1, .bool (cmm (wdA ws b)).2], h.freeze ++ L) := fun L => c18 (d := d + 1) e.freeze.app (by have := wl b; omega)
    have ok0 : okR cmm ws i = ((cmm (wdA ws a)).2 && (cmm (wdA ws b)).2) := by rw [hak, hbk]; rfl
    have p0 : pR cmm ws i = (cmm (wdA ws a)).1 := by rw [hak]; rfl
    have s0 : sR cmm ws i = (cmm (wdA ws b)).1 := by rw [hbk]; rfl
    have up := upto_step (pR cmm ws) i
    have us := upto_step (sR cmm ws) i
    rw [p0] at up
    rw [s0] at us
    rcases hx : cmm (wdA ws a) with ⟨x, u⟩
    rcases hz : cmm (wdA ws b) with ⟨z, v⟩
    rw [hx] at qa up ok0
    rw [hz] at qb us ok0
    have sp1 : ∀ P S, splice (tmL (wdA ws 0) P S) (1 + i) [i64 x] = tmL (wdA ws 0) (upd1 P i x) S := fun P S => tmL_setP hlt
    have sp2 : ∀ P S, splice (tmL (wdA ws 0) P S) (13 + i) [i64 z] = tmL (wdA ws 0) P (upd1 S i z) := fun P S => tmL_setS hlt
    have sp3 : ∀ P S, (tmL (wdA ws 0) P S).set (1 + i) (i64 x) = tmL (wdA ws 0) (upd1 P i x) S := sp1
    have sp4 : ∀ P S, (tmL (wdA ws 0) P S).set (13 + i) (i64 z) = tmL (wdA ws 0) P (upd1 S i z) := sp2
    by_cases hu : u = true ∧ v = true
    ·obtain ⟨rfl, rfl⟩ := hu
     simp [-collect_own1, hlt, hlt', wa, wb, wc, w1', a25, b25, a25', b25', i1, i2, ga, gb, qa, qb, sp1, sp2, sp3, sp4, tl, tp, up, us, St.tidy, collect_box, cw, zp]
     exact ⟨12 - (i + 1), by omega, i + 1, rfl, by omega, fun j hj => by
      by_cases q : j = i
      ·subst q; exact ok0
      ·exact ha j (by omega), by omega, rfl⟩
    ·have bad : (List.range 12).all (okR cmm ws) = false := by
      rw [Bool.eq_false_iff]
      intro q
      have := List.all_eq_true.1 q i (List.mem_range.2 hlt)
      rw [ok0, Bool.and_eq_true] at this
      exact hu this
     rw [bad] at hres
     simp only [Bool.false_eq_true, if_false] at hres
     subst hres
     by_cases hu1 : u = true
     ·have hv1 : v = false := by
       rcases v with _ | _
       ·rfl
       ·exact absurd ⟨hu1, rfl⟩ hu
      subst hu1 hv1
      simp [-collect_own1, hlt, hlt', wa, wb, wc, w1', a25, b25, a25', b25', i1, i2, ga, gb, qa, qb, sp1, sp2, sp3, sp4, tl, tp, up, us, zT]
      done
     ·have hu1 : u = false := by simpa using hu1
      subst hu1
      simp [-collect_own1, hlt, hlt', wa, wb, wc, w1', a25, b25, a25', b25', i1, i2, ga, gb, qa, qb, sp1, sp2, sp3, sp4, tl, tp, up, us, zT]
      done
   ·obtain rfl : i = 12 := by omega
    have good : (List.range 12).all (okR cmm ws) = true := List.all_eq_true.2 fun j hj => ha j (List.mem_range.1 hj)
    rw [if_pos good] at hres
    rw [tmL_upto]
    have tk := (tmL_tm (wdA ws 0) (pR cmm ws) (sR cmm ws)).take
    have tn := tl (pR cmm ws) (sR cmm ws)
    have kc : ∀ L, E.call (d + 4) h.length 11 [.agg (tmL (wdA ws 0) (pR cmm ws) (sR cmm ws)).toArray] (h.freeze ++ L) = some (i64 (chkT ⟨(wdA ws 0).toArray⟩ (pR cmm ws) (sR cmm ws)), h.freeze ++ L) := fun L => c11 (d := d) (tmL_tm _ _ _) (by rw [tx_size]; have := wl 0; omega)
    have zs2 := zT_spl tn
    have tq := tp (pR cmm ws) (sR cmm ws)
    have to := tmL_one (wdA ws 0) (pR cmm ws) (sR cmm ws)
    have tpl := fun H : Heap => collect_plain2 (n := h.length) (h := H) (v := i64 0) tq rfl
    simp only [zT] at zs2
    generalize chkT ⟨(wdA ws 0).toArray⟩ (pR cmm ws) (sR cmm ws) = ck at *
    generalize tmL (wdA ws 0) (pR cmm ws) (sR cmm ws) = C at *
    by_cases z : ck = 0
    ·subst z
     rw [if_neg (by simp)] at hres
     subst hres
     simp [-collect_own1, kc, tk, tn, zT, zs2, to, tpl]
    ·rw [if_pos z] at hres
     subst hres
     simp [kc, tk, tn, z, zT]
 ·have h25' : ¬ ((cutB 32 s).length : Int) = 25 := by omega
  simp [ef6, h3', prsT, h3, zT, kSp, h25, h25']
end M
end Go.Abs
