/- Rotated temperaments. -/
import Derived.Test.YtinbdefjjfmfoaaDoorAbsTH6
import Derived.Test.YtinbdefjjfmfoaaDoorAbsTEP
import Derived.Test.YtinbdefjjfmfoaaDoorAbsTCM
set_option linter.unusedSimpArgs false
set_option linter.unusedVariables false
namespace Go.Abs
namespace T
set_option maxRecDepth 100000
set_option maxHeartbeats 0
/-- A temperament with its first commas rotated. -/
def rotK (nm : ByteArray) (P S : Nat → Int) (f n : Nat) : List Value := .string nm :: ((List.range 12).map (fun j => i64 (if j < n then P ((j + f) % 12) else 0)) ++ (List.range 12).map (fun j => i64 (if j < n then S ((j + f) % 12) else 0)))
theorem rotK_len (nm : ByteArray) (P S : Nat → Int) (f n : Nat) : (rotK nm P S f n).length = 25 := by simp [rotK]
theorem rotK_plain (nm : ByteArray) (P S : Nat → Int) (f n : Nat) : (rotK nm P S f n).all plainV = true := by simp [rotK, plainV]
theorem rotK_at (nm : ByteArray) (P S : Nat → Int) (f n k : Nat) : (rotK nm P S f n)[k]? = if k = 0 then some (.string nm) else if k < 13 then some (i64 (if k - 1 < n then P ((k - 1 + f) % 12) else 0)) else if k < 25 then some (i64 (if k - 13 < n then S ((k - 13 + f) % 12) else 0)) else none := by
  unfold rotK
  by_cases h0 : k = 0
  · subst h0; rfl
  · obtain ⟨j, rfl⟩ : ∃ j, k = j + 1 := ⟨k - 1, by omega⟩
    rw [List.getElem?_cons_succ, if_neg h0]
    by_cases h1 : j < 12
    · rw [if_pos (by omega), List.getElem?_append_left (by simpa using h1), List.getElem?_map, List.getElem?_range h1]; rfl
    · rw [if_neg (by omega), List.getElem?_append_right (by simpa using h1)]
      simp only [List.length_map, List.length_range, List.getElem?_map]
      by_cases h2 : j + 1 < 25
      · rw [if_pos h2, List.getElem?_range (by omega)]
        have : j - 12 = j + 1 - 13 := by omega
        rw [this]; rfl
      · rw [if_neg h2, List.getElem?_eq_none (by simp; omega)]; rfl
theorem rotK_next (nm : ByteArray) (P S : Nat → Int) (f : Nat) {n : Nat} (hn : n < 12) :
    ((rotK nm P S f n).set (1 + n) (i64 (P ((n + f) % 12)))).set (13 + n) (i64 (S ((n + f) % 12))) = rotK nm P S f (n + 1) := by
  apply List.ext_getElem?
  intro k
  have hl := rotK_len nm P S f n
  rw [List.getElem?_set, List.getElem?_set, rotK_at, rotK_at, List.length_set, hl]
  by_cases e1 : 13 + n = k
  · subst e1
    rw [if_pos rfl, if_pos (by omega), if_neg (by omega), if_neg (by omega), if_pos (by omega), if_pos (by omega)]
    have : 13 + n - 13 = n := by omega
    rw [this]
  · rw [if_neg e1]
    by_cases e2 : 1 + n = k
    · subst e2
      rw [if_pos rfl, if_pos (by omega), if_neg (by omega), if_pos (by omega), if_pos (by omega)]
      have : 1 + n - 1 = n := by omega
      rw [this]
    · rw [if_neg e2]
      by_cases h0 : k = 0
      · rw [if_pos h0, if_pos h0]
      · rw [if_neg h0, if_neg h0]
        by_cases h1 : k < 13
        · rw [if_pos h1, if_pos h1]
          by_cases q : k - 1 < n
          · rw [if_pos q, if_pos (by omega)]
          · rw [if_neg q, if_neg (by omega)]
        · rw [if_neg h1, if_neg h1]
          by_cases h2 : k < 25
          · rw [if_pos h2, if_pos h2]
            by_cases q : k - 13 < n
            · rw [if_pos q, if_pos (by omega)]
            · rw [if_neg q, if_neg (by omega)]
          · rw [if_neg h2, if_neg h2]
def rotF (P : Nat → Int) (f : Nat) : Nat → Int := fun i => P ((i + f) % 12)
theorem rotK_tm (nm : ByteArray) (P S : Nat → Int) (f : Nat) : Tm (rotK nm P S f 12) nm (rotF P f) (rotF S f) :=
  ⟨rotK_len .., by rw [rotK_at]; rfl, fun i hi => by
    rw [rotK_at, if_neg (by omega), if_pos (by omega)]
    have : 1 + i - 1 = i := by omega
    rw [this, if_pos hi]; rfl, fun i hi => by
    rw [rotK_at, if_neg (by omega), if_neg (by omega), if_pos (by omega)]
    have : 13 + i - 13 = i := by omega
    rw [this, if_pos hi]; rfl⟩
theorem Tm.ext {C C' : List Value} {nm : ByteArray} {P S P' S' : Nat → Int} (t : Tm C nm P S) (t' : Tm C' nm P' S') (hP : ∀ i, i < 12 → P i = P' i) (hS : ∀ i, i < 12 → S i = S' i) : C = C' := by
  apply List.ext_getElem?
  intro k
  by_cases h0 : k = 0
  · subst h0; rw [t.name, t'.name]
  · by_cases h1 : k < 13
    · obtain ⟨i, rfl⟩ : ∃ i, k = 1 + i := ⟨k - 1, by omega⟩
      rw [t.p i (by omega), t'.p i (by omega), hP i (by omega)]
    · by_cases h2 : k < 25
      · obtain ⟨i, rfl⟩ : ∃ i, k = 13 + i := ⟨k - 13, by omega⟩
        rw [t.s i (by omega), t'.s i (by omega), hS i (by omega)]
      · rw [List.getElem?_eq_none (by rw [t.len]; omega), List.getElem?_eq_none (by rw [t'.len]; omega)]
theorem plain_allNo : ∀ {l : List Value}, l.all plainV = true → allNo l = true
  | [], _ => rfl
  | v :: r, h => by
    rw [List.all_cons, Bool.and_eq_true] at h
    rw [allNo_cons, plain_allNo h.2]; simp [noAddr, h.1]
theorem plain_one {v : Value} (h : plainV v = true) : v.oneCell' = true := by
  cases v <;> first | rfl | (simp [plainV] at h)
theorem plain_allOne : ∀ {l : List Value}, l.all plainV = true → allOne l = true
  | [], _ => rfl
  | v :: r, h => by
    rw [List.all_cons, Bool.and_eq_true] at h
    rw [allOne_cons, plain_allOne h.2, plain_one h.1]; rfl
theorem rotK_one (nm : ByteArray) (P S : Nat → Int) (f n : Nat) : allOne (rotK nm P S f n) = true := plain_allOne (rotK_plain nm P S f n)
theorem rotK_no (nm : ByteArray) (P S : Nat → Int) (f n : Nat) : allNo (rotK nm P S f n) = true := plain_allNo (rotK_plain nm P S f n)
def zT : List Value := [.string ⟨#[]⟩, i64 0, i64 0, i64 0, i64 0, i64 0, i64 0, i64 0, i64 0, i64 0, i64 0, i64 0, i64 0, i64 0, i64 0, i64 0, i64 0, i64 0, i64 0, i64 0, i64 0, i64 0, i64 0, i64 0, i64 0]
theorem rotK_start (nm : ByteArray) (P S : Nat → Int) (f : Nat) : rotK nm P S f 0 = tmC nm z12 z12 := by
  simp [rotK, tmC, z12, List.range_succ]
theorem splice_app : ∀ (b a r : List Value) (n : Nat), a.length = n → ∀ c : List Value, c.length = b.length → splice (a ++ c ++ r) n b = a ++ b ++ r
  | [], a, r, n, _, c, hc => by
    have : c = [] := List.eq_nil_of_length_eq_zero hc
    subst this; rfl
  | v :: b, a, r, n, ha, c, hc => by
    match c, hc with
    | x :: c, hc =>
      have e1 : (a ++ x :: c ++ r).set n v = (a ++ [v]) ++ c ++ r := by
        rw [List.append_assoc, List.set_append_right _ _ (by omega)]
        have : n - a.length = 0 := by omega
        rw [this]; simp
      unfold splice
      rw [e1, splice_app b (a ++ [v]) r (n + 1) (by simp [ha]) c (by simpa using hc)]
      simp
theorem splice_whole {a b : List Value} (h : a.length = b.length) : splice a 0 b = b := by
  have := splice_app b [] [] 0 rfl a h
  simpa using this
theorem rotK_take (nm : ByteArray) (P S : Nat → Int) (f n : Nat) : (rotK nm P S f n).take 25 = rotK nm P S f n := List.take_of_length_le (by rw [rotK_len]; exact Nat.le_refl 25)
theorem zT_splice (nm : ByteArray) (P S : Nat → Int) (f n : Nat) : splice zT 0 (rotK nm P S f n) = rotK nm P S f n := splice_whole (by rw [rotK_len]; rfl)
theorem collect_plain {n : Nat} {L : List Value} {h : Heap} (hp : L.all plainV = true) : collect n [.agg L.toArray] h = some ([.agg L.toArray], []) := by
  refine collect_low ?_ ?_
  · have : lowV n valDepth (.agg L.toArray) = L.all (lowV n 3) := lowV_agg n 3 L.toArray
    rw [List.all_cons, this, plain_low hp]; rfl
  · have : fewV valDepth (.agg L.toArray) = (L.map (fewV 3)).sum := by
      show fewV 4 (.agg L.toArray) = _
      simp
    simp only [List.map_cons, List.map_nil, List.sum_cons, List.sum_nil, this, plain_few hp]; decide
theorem collect_plain2 {n : Nat} {L : List Value} {h : Heap} {v : Value} (hp : L.all plainV = true) (hv : plainV v = true) : collect n [.tuple #[.agg L.toArray, v]] h = some ([.tuple #[.agg L.toArray, v]], []) := by
  have l1 : lowV n 4 (.tuple #[.agg L.toArray, v]) = (lowV n 3 (.agg L.toArray) && (lowV n 3 v && true)) := by
    conv => lhs; unfold lowV
    simp only [plainV, Bool.false_or]
    rfl
  have l2 : lowV n 3 (.agg L.toArray) = L.all (lowV n 2) := lowV_agg n 2 L.toArray
  have l3 : lowV n 3 v = true := lowV_plain hv
  have f1 : fewV 4 (.tuple #[.agg L.toArray, v]) = (L.map (fewV 2)).sum + (fewV 3 v + 0) := by rw [fewV]; simp [plainV]
  have f3 : [v].all plainV = true := by simp [hv]
  have f2 := plain_few f3 3
  simp only [List.map_cons, List.map_nil, List.sum_cons, List.sum_nil] at f2
  refine collect_low ?_ ?_
  · show (lowV n 4 (.tuple #[.agg L.toArray, v]) && true) = true
    rw [l1, l2, l3, plain_low hp]; rfl
  · show decide (fewV 4 (.tuple #[.agg L.toArray, v]) + 0 ≤ 999) = true
    rw [f1, f2, plain_few hp]; decide
/-- The reference's. -/
theorem c61 {d lim : Nat} {h : Heap} {C : List Value} {nm : ByteArray} {P S : Nat → Int} {f : Nat} (t : Tm C nm P S) (hf : f < 12) : E.call (d + 2) lim 61 [.agg C.toArray, i64 f] h = some (.agg (rotK nm P S f 12).toArray, h) := by
  refine call1 fn61 rfl (by simp [ef61]) ?_
  have k0 := rotK_start nm P S f
  simp [tmC, z12] at k0
  simp [ef61, t.len, t.take, t.name', ← k0, rotK_len, rotK_one, rotK_no]
  refine wpC_loop (fun q st => ∃ i, q = 12 - i ∧ i ≤ 12 ∧ st = ⟨[(1, i64 f), (2, .pointer (some ⟨h.length, 0, none⟩)), (4, .pointer (some ⟨h.length + 1, 0, none⟩)), (5, .pointer (some ⟨h.length + 2, 0, none⟩)), (6, i64 i)],
    h.freeze ++ [some ⟨C, true⟩, some ⟨zT, true⟩, some ⟨rotK nm P S f i, true⟩]⟩) 12 (by show 12 < 2 ^ 64; omega) ?_ ?_
  · have zs := zT_splice nm P S f 0
    simp only [zT] at zs
    simp [St.tidy, t.plain, rotK_plain, zT, zs]
    exact ⟨0, by omega, by omega, rfl, rfl⟩
  · rintro q hq _ ⟨i, rfl, hi, rfl⟩
    by_cases hlt : i < 12
    · have w1' := w1 (i := i) (by omega)
      have w2 := wN (n := i + f) (by omega)
      simp only [W] at w1' w2
      have c2 : IntKind.wrap .i64 ((i : Int) + (f : Int)) = ((i + f : Nat) : Int) := w2
      have k103 := fun lim hh => @c103 d lim hh (i + f)
      have hm : (i + f) % 12 < 12 := by omega
      have p := t.p _ hm
      have s := t.s _ hm
      have nx := rotK_next nm P S f hlt
      have m1 : (((i + f) % 12 : Nat) : Int) < 12 := by omega
      have m0 : (0 : Int) ≤ (((i + f) % 12 : Nat) : Int) := by omega
      generalize (i + f) % 12 = m at *
      generalize i + f = g at *
      have h4 : (i : Int) < 12 := by omega
      simp [h4, t.len, t.plain, rotK_plain, rotK_len, zT, c2, k103, p, s, m1, m0, w1', St.tidy, nx]
      exact ⟨by omega, by omega, 12 - (i + 1), by omega, i + 1, rfl, by omega, rfl, rfl⟩
    · obtain rfl : i = 12 := by omega
      have zs := zT_splice nm P S f 12
      simp only [zT] at zs
      have pl := fun hh => collect_plain (n := h.length) (h := hh) (rotK_plain nm P S f 12)
      simp [-collect_own1, rotK_len, rotK_one, rotK_no, zT, rotK_take, zs, pl]
theorem c59e {d lim : Nat} {h : Heap} {C : List Value} {nm : ByteArray} {P S : Nat → Int} {n : Int} (t : Tm C nm P S) (hs : nm.size ≤ 1000) (h0 : chkT nm P S ≠ 0) : E.call (d + 6) lim 59 [.agg C.toArray, i64 n] h = some (.tuple #[.agg zT.toArray, i64 (chkT nm P S)], h) := by
  refine call1 fn59 rfl (by simp [ef59]) ?_
  have k84 := fun lim hh v => c84b (d := d) (lim := lim) (h := hh) (v := v) t hs h0
  simp [ef59, t.len, t.take, c101, k84, h0, zT]
theorem c59o {d lim : Nat} {h : Heap} {C : List Value} {nm : ByteArray} {P S : Nat → Int} {n : Int} (t : Tm C nm P S) (hs : nm.size ≤ 1000) (h0 : chkT nm P S = 0) (hn : isClass n = false) : E.call (d + 6) lim 59 [.agg C.toArray, i64 n] h = some (.tuple #[.agg zT.toArray, i64 2], h) := by
  refine call1 fn59 rfl (by simp [ef59]) ?_
  have gb : Heap.get (h.freeze ++ [some ⟨C, true⟩, some ⟨zT, true⟩, some ⟨[.bool false], true⟩]) (h.length + 2) = some ⟨[.bool false], true⟩ := by rw [hget_base (by simp)]; rfl
  have k84 := fun lim => c84c (d := d) (lim := lim) t hs (SlBo1 gb) (by simp) h0 (by simp)
  simp only [zT, i64] at k84
  simp [ef59, t.len, t.take, c101, hn, k84, h0, zT]
theorem c59 {d lim : Nat} {h : Heap} {C : List Value} {nm : ByteArray} {P S : Nat → Int} {f : Nat} (t : Tm C nm P S) (hs : nm.size ≤ 1000) (h0 : chkT nm P S = 0) (hf : f < 12) :
    E.call (d + 6) lim 59 [.agg C.toArray, i64 f] h = some (.tuple #[.agg (if chkT nm (rotF P f) (rotF S f) = 0 then rotK nm P S f 12 else zT).toArray, i64 (chkT nm (rotF P f) (rotF S f))], h) := by
  have hn : isClass (f : Int) = true := by simp [isClass, within]; omega
  have gb : Heap.get (h.freeze ++ [some ⟨C, true⟩, some ⟨zT, true⟩, some ⟨[.bool true], true⟩]) (h.length + 2) = some ⟨[.bool true], true⟩ := by rw [hget_base (by simp)]; rfl
  have k84 := fun lim => c84 (d := d) (lim := lim) t hs (SlBo1 gb) (by simp) h0 (by simp)
  simp only [zT, i64] at k84
  have k51 := fun lim hh => c51 (d := d + 1) (lim := lim) (h := hh) (rotK_tm nm P S f) hs
  have kp := Cir.plain (K := circK P S) (P := P) (S := S) rfl
  refine call1 fn59 rfl (by simp [ef59]) ?_
  have k0 := rotK_start nm P S f
  simp [tmC, z12] at k0
  simp [ef59, t.len, t.take, t.name', c101, hn, k84, h0, zT, ← k0, rotK_len, rotK_one, rotK_no]
  refine wpC_loop (fun q st => ∃ i, q = 12 - i ∧ i ≤ 12 ∧ st = ⟨[(1, i64 f), (2, .pointer (some ⟨h.length, 0, none⟩)), (4, .pointer (some ⟨h.length + 1, 0, none⟩)), (8, .pointer (some ⟨h.length + 2, 0, none⟩)), (26, i64 i)],
    h.freeze ++ [some ⟨C, true⟩, some ⟨zT, true⟩, some ⟨rotK nm P S f i, true⟩]⟩) 12 (by show 12 < 2 ^ 64; omega) ?_ ?_
  · have zs := zT_splice nm P S f 0
    simp only [zT] at zs
    simp [St.tidy, t.plain, rotK_plain, zT, zs]
    exact ⟨0, by omega, by omega, rfl, rfl⟩
  · rintro q hq _ ⟨i, rfl, hi, rfl⟩
    by_cases hlt : i < 12
    · have w1' := w1 (i := i) (by omega)
      have w2 := wN (n := i + f) (by omega)
      simp only [W] at w1' w2
      have c2 : IntKind.wrap .i64 ((i : Int) + (f : Int)) = ((i + f : Nat) : Int) := w2
      have q2 := qm12 (n := i + f)
      have hm : (i + f) % 12 < 12 := by omega
      have p := t.p _ hm
      have s := t.s _ hm
      have nx := rotK_next nm P S f hlt
      have m1 : (((i + f) % 12 : Nat) : Int) < 12 := by omega
      have m0 : (0 : Int) ≤ (((i + f) % 12 : Nat) : Int) := by omega
      generalize (i + f) % 12 = m at *
      generalize i + f = g at *
      have h4 : (i : Int) < 12 := by omega
      simp [h4, t.len, t.plain, rotK_plain, rotK_len, zT, c2, q2, p, s, m1, m0, w1', St.tidy, nx]
      exact ⟨by omega, by omega, 12 - (i + 1), by omega, i + 1, rfl, by omega, rfl, rfl⟩
    · obtain rfl : i = 12 := by omega
      have zs := zT_splice nm P S f 12
      simp only [zT] at zs
      have pl := fun hh => collect_plain (n := h.length) (h := hh) (rotK_plain nm P S f 12)
      by_cases hc : chkT nm (rotF P f) (rotF S f) = 0
      · rw [hc] at k51
        simp [-collect_own1, rotK_len, rotK_one, rotK_no, zT, rotK_take, zs, k51, hc]
        exact collect_plain2 (rotK_plain nm P S f 12) rfl
      · simp [rotK_len, rotK_one, rotK_no, zT, rotK_take, zs, k51, hc]
end T
end Go.Abs
