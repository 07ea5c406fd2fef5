/- Texts cut at a byte, and numbers read from texts: plain. -/
import Derived.Test.YtllhkifkiabkbaaGreatDoorAbsNatM
import Derived.Lib.Bytealg
import Derived.Lib.Join
set_option linter.unusedSimpArgs false
set_option linter.unusedVariables false
/- Texts cut at a byte, and numbers read from texts: plain. -/
namespace Go.Abs
/-- A text cut at each byte that is c. -/
def cutB (c : UInt8) : List UInt8 → List (List UInt8)
  | [] => [[]]
  | x :: r => if x = c then [] :: cutB c r else match cutB c r with | [] => [] | w :: ws => (x :: w) :: ws
theorem cutB_ne (c : UInt8) : ∀ s, cutB c s ≠ []
  | [] => by simp [cutB]
  | x :: r => by
    unfold cutB
    split
    · simp
    · split
      · rename_i h; exact absurd h (cutB_ne c r)
      · simp
theorem cutB_at {c : UInt8} {b : List UInt8} : ∀ {a : List UInt8}, c ∉ a → cutB c (a ++ c :: b) = a :: cutB c b
  | [], _ => by rw [List.nil_append, cutB, if_pos rfl]
  | x :: r, h => by
    rw [List.mem_cons, not_or] at h
    rw [List.cons_append, cutB, if_neg (fun e => h.1 e.symm), cutB_at h.2]
theorem cutB_no {c : UInt8} : ∀ {a : List UInt8}, c ∉ a → cutB c a = [a]
  | [], _ => rfl
  | x :: r, h => by
    rw [List.mem_cons, not_or] at h
    rw [cutB, if_neg (fun e => h.1 e.symm), cutB_no h.2]
theorem mem_split {c : UInt8} : ∀ {s : List UInt8}, c ∈ s → ∃ a b, s = a ++ c :: b ∧ c ∉ a
  | [], h => by cases h
  | x :: r, h => by
    by_cases e : x = c
    · exact ⟨[], r, by rw [e, List.nil_append], by simp⟩
    · obtain ⟨a, b, e1, e2⟩ := mem_split ((List.mem_cons.1 h).resolve_left fun q => e q.symm)
      exact ⟨x :: a, b, by rw [e1, List.cons_append], by rw [List.mem_cons, not_or]; exact ⟨fun q => e q.symm, e2⟩⟩
theorem idx_at {c : UInt8} {b : List UInt8} : ∀ {a : List UInt8}, c ∉ a → Lib.indexByte (a ++ c :: b) c = (a.length : Int)
  | [], _ => by simp [Lib.indexByte]
  | x :: r, h => by
    rw [List.mem_cons, not_or] at h
    rw [List.cons_append, Lib.indexByte, idx_at h.2, if_neg (by simp; exact fun e => h.1 e.symm), if_neg (by simp; try omega)]
    simp
theorem idx_no {c : UInt8} : ∀ {a : List UInt8}, c ∉ a → Lib.indexByte a c = -1
  | [], _ => rfl
  | x :: r, h => by
    rw [List.mem_cons, not_or] at h
    rw [Lib.indexByte, idx_no h.2, if_neg (by simp; exact fun e => h.1 e.symm)]
    rfl
/-- The words and where the next one begins, after i bytes. -/
def cw (c : UInt8) (s : List UInt8) : Nat → List (List UInt8) × Nat
  | 0 => ([], 0)
  | i + 1 => if i = s.length ∨ s[i]? = some c then ((cw c s i).1 ++ [(s.take i).drop (cw c s i).2], i + 1) else cw c s i
theorem cw_fits (c : UInt8) (s : List UInt8) : ∀ i, i ≤ s.length → (cw c s i).2 ≤ i ∧ c ∉ (s.take i).drop (cw c s i).2 ∧ cutB c s = (cw c s i).1 ++ cutB c (s.drop (cw c s i).2)
  | 0, _ => ⟨Nat.le_refl _, by simp [cw], by simp [cw]⟩
  | i + 1, h => by
    obtain ⟨h1, h2, h3⟩ := cw_fits c s i (by omega)
    have hi : i < s.length := by omega
    have e : s.take (i + 1) = s.take i ++ [s[i]] := List.take_succ_eq_append_getElem hi
    have l : (s.take i).length = i := by rw [List.length_take]; omega
    unfold cw
    split
    · rename_i q
      have q : s[i] = c := by
        rcases q with q | q
        · omega
        · rw [List.getElem?_eq_getElem hi] at q; exact Option.some.inj q
      refine ⟨Nat.le_refl _, ?_, ?_⟩
      · rw [List.drop_of_length_le (by rw [List.length_take]; omega)]; simp
      · rw [h3, List.append_assoc]
        congr 1
        have d : s.drop (cw c s i).2 = (s.take i).drop (cw c s i).2 ++ c :: s.drop (i + 1) := by
          have e2 : s = s.take i ++ c :: s.drop (i + 1) := by rw [← q, ← List.drop_eq_getElem_cons hi, List.take_append_drop]
          generalize (cw c s i).2 = k at *
          conv => lhs; rw [e2]
          rw [List.drop_append_of_le_length (by omega)]
        rw [d, cutB_at h2]; rfl
    · rename_i q
      rw [not_or] at q
      refine ⟨by omega, ?_, h3⟩
      rw [e, List.drop_append_of_le_length (by omega), List.mem_append, not_or]
      refine ⟨h2, fun z => q.2 ?_⟩
      rw [List.getElem?_eq_getElem hi, List.mem_singleton.1 z]
theorem cw_end (c : UInt8) (s : List UInt8) : (cw c s (s.length + 1)).1 = cutB c s := by
  obtain ⟨h1, h2, h3⟩ := cw_fits c s s.length (Nat.le_refl _)
  rw [cw, if_pos (Or.inl rfl), h3]
  show _ ++ _ = _
  congr 1
  rw [List.take_length] at h2 ⊢
  rw [cutB_no h2]
theorem cw_le (c : UInt8) (s : List UInt8) (i : Nat) (h : i ≤ s.length) : (cw c s i).2 ≤ i := (cw_fits c s i h).1
/-- A text is that of a number of at most d digits. -/
def IsNum (d : Nat) (s : List UInt8) (n : Int) : Prop := s = dec n ∧ n.natAbs < 10 ^ d
theorem IsNum.eq {d e : Nat} {s : List UInt8} {m n : Int} (a : IsNum d s m) (b : IsNum e s n) : m = n := dec_inj (a.1.symm.trans b.1)
theorem digs_not {n : Nat} {c : UInt8} (h : isDg c = false) : c ∉ digs n := fun q => by
  have := List.all_eq_true.1 (digs_all n) c q
  rw [h] at this; cases this
theorem dec_not {n : Int} {c : UInt8} (h : isDg c = false) (h2 : c ≠ 45) : c ∉ dec n := by
  by_cases a : n < 0
  · rw [dec_neg a, List.mem_cons, not_or]; exact ⟨h2, digs_not h⟩
  · rw [dec_nn a]; exact digs_not h
/-- What the code reads: a number, and whether it is one of at most 10 digits. -/
def whl (d : Nat) (s : List UInt8) : Int × Bool := match Lib.atoiAll s with
  | .ok n => (n, decide (dec n = s) && decide ((unsg s).length ≤ d))
  | .range => (Lib.atoiSat s, false)
  | _ => (0, false)
theorem whl_is {d : Nat} {s : List UInt8} {n : Int} (hd : 0 < d) (hd2 : d ≤ 17) : whl d s = (n, true) ↔ IsNum d s n := by
  constructor
  · intro h
    unfold whl at h
    split at h
    · rename_i m e
      simp only [Prod.mk.injEq, Bool.and_eq_true, decide_eq_true_eq] at h
      obtain ⟨rfl, h1, h2⟩ := h
      refine ⟨h1.symm, ?_⟩
      rw [← h1, unsg_dec] at h2
      exact (digs_len d hd).1 h2
    · cases h
    · cases h
  · rintro ⟨rfl, h⟩
    have h17 : n.natAbs < 10 ^ 17 := Nat.lt_of_lt_of_le h (Nat.pow_le_pow_right (by decide) hd2)
    unfold whl
    rw [atoi_dec h17]
    simp only [unsg_dec, (digs_len d hd).2 h, decide_true, Bool.and_self]
/-- What the reference reads. -/
def nub (s : List UInt8) : Int := if s.head? = some 45 then -(valD (unsg s) : Int) else valD (unsg s)
def rdn (d : Nat) (s : List UInt8) : Int × Bool :=
  if (unsg s).length = 0 ∨ d < (unsg s).length then (0, false) else if (unsg s).all isDg then (nub s, decide (dec (nub s) = s)) else (0, false)
theorem nub_dec (n : Int) : nub (dec n) = n := by
  unfold nub
  rw [unsg_dec, valD_digs]
  by_cases a : n < 0
  · rw [dec_neg a, List.head?_cons, if_pos rfl]; omega
  · rw [dec_nn a, if_neg]
    · omega
    · intro h
      rcases e : digs n.natAbs with _ | ⟨c, r⟩
      · rw [e] at h; cases h
      · rw [e] at h; cases h; exact absurd e digs_no_minus
theorem nub_abs (s : List UInt8) : (nub s).natAbs = valD (unsg s) := by unfold nub; split <;> omega
theorem rdn_is {d : Nat} {s : List UInt8} {n : Int} (hd : 0 < d) : rdn d s = (n, true) ↔ IsNum d s n := by
  constructor
  · intro h
    unfold rdn at h
    split at h
    · cases h
    · rename_i hl
      split at h
      · rename_i ha
        simp only [Prod.mk.injEq, decide_eq_true_eq] at h
        obtain ⟨rfl, h1⟩ := h
        refine ⟨h1.symm, ?_⟩
        rw [nub_abs]
        exact Nat.lt_of_lt_of_le (valD_lt _ ha) (Nat.pow_le_pow_right (by decide) (by omega))
      · cases h
  · rintro ⟨rfl, h⟩
    have p := digs_pos n.natAbs
    have q := (digs_len d hd).2 h
    unfold rdn
    rw [unsg_dec, if_neg (by omega), if_pos (digs_all _), nub_dec, decide_eq_true rfl]
/-- Both read the same. -/
theorem whl_rdn {d : Nat} {s : List UInt8} (hd : 0 < d) (hd2 : d ≤ 17) : (∃ n, IsNum d s n ∧ whl d s = (n, true) ∧ rdn d s = (n, true)) ∨ ((∀ n, ¬ IsNum d s n) ∧ (whl d s).2 = false ∧ (rdn d s).2 = false) := by
  by_cases h : ∃ n, IsNum d s n
  · obtain ⟨n, h⟩ := h
    exact .inl ⟨n, h, (whl_is hd hd2).2 h, (rdn_is hd).2 h⟩
  · refine .inr ⟨fun n q => h ⟨n, q⟩, ?_, ?_⟩
    · rcases e : whl d s with ⟨n, _ | _⟩
      · rfl
      · exact absurd ⟨n, (whl_is hd hd2).1 e⟩ h
    · rcases e : rdn d s with ⟨n, _ | _⟩
      · rfl
      · exact absurd ⟨n, (rdn_is hd).1 e⟩ h
end Go.Abs
/- Texts of several numbers, and of lines of such: plain. -/
namespace Go.Abs
/-- What is read of words with R: the numbers, and whether they are so many. -/
def nmW (R : List UInt8 → Int × Bool) (cnt : Nat) (ws : List (List UInt8)) : List Int × Bool :=
  if ws.all (fun w => (R w).2) then (ws.map (fun w => (R w).1), decide (ws.length = cnt)) else ([], false)
def nmP (R : List UInt8 → Int × Bool) (cnt : Nat) (s : List UInt8) : List Int × Bool := nmW R cnt (cutB 32 s)
theorem nm_same {d : Nat} (hd : 0 < d) (hd2 : d ≤ 17) (cnt : Nat) (s : List UInt8) : nmP (whl d) cnt s = nmP (rdn d) cnt s := by
  unfold nmP nmW
  generalize cutB 32 s = ws
  have e1 : ws.all (fun w => (whl d w).2) = ws.all (fun w => (rdn d w).2) := by
    congr 1
    funext w
    rcases whl_rdn (d := d) (s := w) hd hd2 with ⟨n, _, a, b⟩ | ⟨_, a, b⟩ <;> rw [a, b]
  rw [e1]
  by_cases h : ws.all (fun w => (rdn d w).2) = true
  · rw [if_pos h, if_pos h]
    congr 1
    apply List.map_congr_left
    intro w hw
    have := List.all_eq_true.1 h w hw
    rcases whl_rdn (d := d) (s := w) hd hd2 with ⟨n, _, a, b⟩ | ⟨_, a, b⟩
    · rw [a, b]
    · rw [b] at this; cases this
  · rw [if_neg h, if_neg h]
theorem nmP_len {R : List UInt8 → Int × Bool} {cnt : Nat} {s : List UInt8} (h : (nmP R cnt s).2 = true) : (nmP R cnt s).1.length = cnt := by
  unfold nmP nmW at h ⊢
  split at h
  · rename_i q
    rw [if_pos q, List.length_map]
    exact of_decide_eq_true h
  · cases h
/-- Numbers with single blanks between. -/
def rowL : List Int → List UInt8
  | [] => []
  | [n] => dec n
  | n :: m :: r => dec n ++ 32 :: rowL (m :: r)
theorem rowL_cons (n m : Int) (r : List Int) : rowL (n :: m :: r) = dec n ++ 32 :: rowL (m :: r) := rfl
theorem rowL_join : ∀ l : List Int, Lib.join (l.map dec) [32] = rowL l
  | [] => rfl
  | [n] => Lib.join_one _ _
  | n :: m :: r => by
    have ih := rowL_join (m :: r)
    rw [List.map_cons, Lib.join_cons] at ih ⊢
    rw [List.map_cons, rowL_cons, ← ih]
    simp [Lib.joinTail]
theorem cut_row : ∀ l : List Int, l ≠ [] → cutB 32 (rowL l) = l.map dec
  | [], h => absurd rfl h
  | [n], _ => cutB_no (dec_not (by decide) (by decide))
  | n :: m :: r, _ => by
    rw [rowL_cons, cutB_at (dec_not (by decide) (by decide)), cut_row (m :: r) (by simp)]; rfl
theorem nm_row {d cnt : Nat} {l : List Int} (hd : 0 < d) (hd2 : d ≤ 17) (h0 : l ≠ []) (hl : l.length = cnt) (hb : ∀ n ∈ l, n.natAbs < 10 ^ d) : nmP (whl d) cnt (rowL l) = (l, true) := by
  have hw : ∀ n ∈ l, whl d (dec n) = (n, true) := fun n hn => (whl_is hd hd2).2 ⟨rfl, hb n hn⟩
  unfold nmP nmW
  rw [cut_row l h0, if_pos (by rw [List.all_map, List.all_eq_true]; intro n hn; simp [hw n hn]), List.map_map, List.length_map, hl, decide_eq_true rfl]
  congr 1
  conv => rhs; rw [← List.map_id l]
  apply List.map_congr_left
  intro n hn
  simp [hw n hn]
theorem rowL_no {c : UInt8} (h1 : isDg c = false) (h2 : c ≠ 45) (h3 : c ≠ 32) : ∀ l : List Int, c ∉ rowL l
  | [] => by simp [rowL]
  | [n] => dec_not h1 h2
  | n :: m :: r => by
    rw [rowL_cons, List.mem_append, List.mem_cons, not_or, not_or]
    exact ⟨dec_not h1 h2, h3, rowL_no h1 h2 h3 (m :: r)⟩
/-- Lines, one after the other. -/
def linesL (l : List (List UInt8)) : List UInt8 := l.flatMap fun w => w ++ [10]
theorem cut_lines : ∀ l : List (List UInt8), (∀ w ∈ l, (10 : UInt8) ∉ w) → cutB 10 (linesL l) = l ++ [[]]
  | [], _ => rfl
  | w :: r, h => by
    have ih := cut_lines r fun x hx => h x (List.mem_cons_of_mem _ hx)
    have e : linesL (w :: r) = w ++ 10 :: linesL r := by simp [linesL]
    rw [e, cutB_at (h w (List.mem_cons_self ..)), ih]; rfl
end Go.Abs
/- Lines of numbers, read one after the other: plain. -/
namespace Go.Abs
/-- What is read of lines: the rows of numbers, the line with the error, the error. -/
def rdL (R : List UInt8 → Int × Bool) (cnt : Nat) : List (List UInt8) → List (List Int) → List (List Int) × Nat × Int
  | [], out => (out, 0, 0)
  | [w], out => if w = [] then (out, 0, 0) else ([], out.length + 1, 7)
  | w :: x :: r, out => if (nmP R cnt w).2 then rdL R cnt (x :: r) (out ++ [(nmP R cnt w).1]) else ([], out.length + 1, 7)
theorem rdL_full {R : List UInt8 → Int × Bool} {cnt : Nat} {w : List UInt8} {ws : List (List UInt8)} {out : List (List Int)} (h : ws ≠ []) : rdL R cnt (w :: ws) out = if (nmP R cnt w).2 then rdL R cnt ws (out ++ [(nmP R cnt w).1]) else ([], out.length + 1, 7) := by
  rcases ws with _ | ⟨x, r⟩
  · exact absurd rfl h
  · rfl
theorem rdL_same {d : Nat} (hd : 0 < d) (hd2 : d ≤ 17) (cnt : Nat) : ∀ (ws : List (List UInt8)) (out : List (List Int)), rdL (whl d) cnt ws out = rdL (rdn d) cnt ws out
  | [], _ => rfl
  | [w], _ => rfl
  | w :: x :: r, out => by
    rw [rdL_full (w := w) (ws := x :: r) (by simp), rdL_full (R := rdn d) (w := w) (ws := x :: r) (by simp), nm_same hd hd2, rdL_same hd hd2 cnt (x :: r)]
/-- One line of a text: whole, or the rest, or none. -/
theorem rd_line {R : List UInt8 → Int × Bool} {cnt : Nat} {a b : List UInt8} {out : List (List Int)} (h : (10 : UInt8) ∉ a) : rdL R cnt (cutB 10 (a ++ 10 :: b)) out = if (nmP R cnt a).2 then rdL R cnt (cutB 10 b) (out ++ [(nmP R cnt a).1]) else ([], out.length + 1, 7) := by
  rw [cutB_at h, rdL_full (cutB_ne 10 b)]
theorem rd_rest {R : List UInt8 → Int × Bool} {cnt : Nat} {a : List UInt8} {out : List (List Int)} (h : (10 : UInt8) ∉ a) (h0 : a ≠ []) : rdL R cnt (cutB 10 a) out = ([], out.length + 1, 7) := by
  rw [cutB_no h, rdL, if_neg h0]
theorem rdL_rowsL {d cnt : Nat} (hd : 0 < d) (hd2 : d ≤ 17) (hc : 0 < cnt) : ∀ (ls : List (List Int)) (out : List (List Int)), (∀ l ∈ ls, l.length = cnt ∧ ∀ n ∈ l, n.natAbs < 10 ^ d) → rdL (whl d) cnt (ls.map rowL ++ [[]]) out = (out ++ ls, 0, 0)
  | [], out, _ => by rw [List.map_nil, List.nil_append, rdL, if_pos rfl, List.append_nil]
  | l :: r, out, h => by
    obtain ⟨h1, h2⟩ := h l (List.mem_cons_self ..)
    have e := nm_row (cnt := cnt) hd hd2 (l := l) (by intro q; rw [q] at h1; simp at h1; omega) h1 h2
    rw [List.map_cons, List.cons_append, rdL_full (by simp), e, if_pos rfl, rdL_rowsL hd hd2 hc r _ fun x hx => h x (List.mem_cons_of_mem _ hx)]
    simp
/-- What is written is read back. -/
theorem rd_back {d cnt : Nat} (hd : 0 < d) (hd2 : d ≤ 17) (hc : 0 < cnt) {ls : List (List Int)} (h : ∀ l ∈ ls, l.length = cnt ∧ ∀ n ∈ l, n.natAbs < 10 ^ d) : rdL (whl d) cnt (cutB 10 (linesL (ls.map rowL))) [] = (ls, 0, 0) := by
  rw [cut_lines _ (fun w hw => by obtain ⟨l, _, rfl⟩ := List.mem_map.1 hw; exact rowL_no (by decide) (by decide) (by decide) l), rdL_rowsL hd hd2 hc ls [] h, List.nil_append]
end Go.Abs
