/- Notes, signature, whether strings are singled out. -/
import Derived.Test.YtfbelnhibipndaaGreatDoorAbsZUMN
set_option linter.unusedSimpArgs false
set_option linter.unusedVariables false
/- Notes, signature, whether strings are singled out. -/
namespace Go.Abs
namespace Z.U
set_option maxRecDepth 100000
set_option maxHeartbeats 0
set_option linter.unusedSimpArgs false
def sinV (l : List P4) : Value := if chkTs l = 0 then (match tw1 (sgA l) (ntD l) 0 with
  | some p => .tuple #[.bool false, .agg #[i64 p.1, i64 p.2], i64 0]
  | none => .tuple #[.bool true, .agg #[i64 0, i64 0], i64 0]) else .tuple #[.bool false, .agg #[i64 0, i64 0], i64 (chkTs l)]
theorem c42 {d lim : Nat} {h : Heap} {v : Value} {l : List P4} (s : Sl4 h v l) (hl : chkTs l = 0 → l.length ≤ 12) : E.call (d + 10) lim 42 [v] h = some (sinV l, h) := by
  have k59 := fun (L : Heap) lim => c11 (d := d + 5) (lim := lim) ((Sl_freeze.2 s).app L)
  refine call1 fn42 rfl (by simp [ef42]) ?_
  unfold sinV
  by_cases q0 : chkTs l = 0
  case neg => simp [ef42, k59, q0]
  have k87 := fun (L : Heap) lim => c76 (d := d) (lim := lim) ((Sl_freeze.2 s).app L) (hl q0)
  generalize tw1 (sgA l) (ntD l) 0 = T at *
  rcases T with _ | ⟨x, y⟩
  · simp only [twV] at k87
    simp [ef42, k59, q0, k87]
  · simp only [twV] at k87
    simp [ef42, k59, q0, k87]
theorem SlI'_pre {h : Heap} {b n : Nat} {l z : List Int} {rw : Bool} (e : h.get b = some ⟨cI (l ++ z), rw⟩) (hn : n = l.length) : SlI' h (vS b n) l := by
  subst hn
  refine ⟨rfl, by rw [cI_len]; simp, fun _ => rfl, .inr ⟨_, _, _, _, rfl, Heap.get_lt e⟩, fun k hk => ?_⟩
  rw [slB_some, slO_some, Nat.zero_add, cell_get e]
  simp only [cI, List.map_append]
  rw [List.getElem?_append_left (by simpa using hk)]
end Z.U
end Go.Abs
/- Explanations: small things. -/
namespace Go.Abs
namespace Z.U
set_option maxRecDepth 100000
set_option maxHeartbeats 0
set_option linter.unusedSimpArgs false
/-- The first place that does not ascend. -/
def aErr (l : List Int) (i : Nat) : Int := if 0 < i ∧ gI l i ≤ gI l (i - 1) then 1 else 0
def ascB (l : List Int) : Bool := decide (fstE (aErr l) l.length 1 = 0)
theorem c114 {d lim : Nat} {h : Heap} {v : Value} {l : List Int} (s : SlI' h v l) (hl : l.length ≤ 1000) : E.call (d + 1) lim 114 [v] h = some (.bool (ascB l), h) := by
  have r := s.rules2
  refine call1 fn114 rfl (by simp [ef114]) ?_
  unfold ascB
  generalize hI : fstE (aErr l) l.length 1 = I
  simp [ef114]
  refine wpC_loop (fun q st => ∃ i : Nat, q = l.length + 1 - i ∧ 1 ≤ i ∧ i ≤ l.length + 1 ∧ fstE (aErr l) l.length i = I ∧ st = ⟨[(0, v), (3, i64 (i : Int))], h.freeze⟩) l.length (by show l.length < 2 ^ 64; omega) ?_ ?_
  · simp [St.tidy, r]
    exact ⟨1, by omega, by omega, by omega, hI, rfl⟩
  · rintro q hq _ ⟨i, rfl, h1, hi, hc, rfl⟩
    by_cases lt : i < l.length
    · have lti : (i : Int) < l.length := by omega
      have w1' := w1 (i := i) (by omega)
      have wm := wm1 (i := i) (by omega) (by omega)
      obtain ⟨p1, p2, p3, p4, p5⟩ := ixL lt
      obtain ⟨q1, q2, q3, q4, q5⟩ := ixL (l := l) (k := i - 1) (by omega)
      have s0 : slAt 1 v (i64 0) = some (.pointer (some ⟨slB v, slO v, none⟩)) := by have := s.at (k := .i64) (i := 0) (by omega) (by omega); simpa using this
      rw [fstE_lt lt] at hc
      by_cases z : gI l i ≤ gI l (i - 1)
      · rw [show aErr l i = 1 by unfold aErr; rw [if_pos ⟨by omega, z⟩], if_neg (by decide)] at hc
        subst hc
        simp [lt, lti, Nat.not_le.2 lt, p1, p2, p3, q1, q2, q3, q5, wm, r, z]
      · rw [show aErr l i = 0 by unfold aErr; rw [if_neg (fun y => z y.2)], if_pos rfl] at hc
        simp [lt, lti, Nat.not_le.2 lt, p1, p2, p3, q1, q2, q3, q5, wm, w1', r, z, Int.not_le.1 z, St.tidy]
        exact ⟨l.length + 1 - (i + 1), by omega, i + 1, by omega, by omega, by omega, hc, by omega⟩
    · have lti : ¬ (i : Int) < l.length := by omega
      rw [fstE_ge lt] at hc
      subst hc
      simp [lt, lti, Nat.not_lt.1 lt, Int.not_lt.1 lti, r]
theorem c158 {d lim : Nat} {h : Heap} {v : Value} {l : List Int} {x : Int} (s : SlI' h v l) (hl : l.length ≤ 100000) :
    E.call (d + 1) lim 158 [v, i64 x] h = some (i64 (if fstI (fun k => decide (x = gI l k)) l.length 0 < l.length then (fstI (fun k => decide (x = gI l k)) l.length 0 : Int) else -1), h) := by
  have r := s.rules2
  refine call1 fn158 rfl (by simp [ef158]) ?_
  generalize hI : fstI (fun k => decide (x = gI l k)) l.length 0 = I
  simp [ef158, r]
  refine wpC_loop (fun z st => ∃ i : Nat, z = l.length - i ∧ i ≤ l.length ∧ fstI (fun k => decide (x = gI l k)) l.length i = I ∧ st = ⟨[(0, v), (1, i64 x), (7, i64 (l.length : Int)), (8, i64 (i : Int))], h.freeze⟩) l.length (by show l.length < 2 ^ 64; omega) ?_ ?_
  · simp [St.tidy, r]
    exact ⟨0, by omega, by omega, hI, rfl⟩
  · rintro z hz _ ⟨i, rfl, hi, hc, rfl⟩
    by_cases lt : i < l.length
    · have lti : (i : Int) < l.length := by omega
      have w1' := w1 (i := i) (by omega)
      obtain ⟨p1, p2, p3, p4, p5⟩ := ixL lt
      rw [fstI_lt lt] at hc
      by_cases e : x = gI l i
      · rw [if_pos (decide_eq_true e)] at hc
        subst hc
        simp [lt, lti, Nat.not_le.2 lt, p1, p2, p3, r, ← e]
      · rw [if_neg (by simpa using e)] at hc
        simp [lt, lti, Nat.not_le.2 lt, p1, p2, p3, r, e, w1', St.tidy]
        exact ⟨l.length - (i + 1), by omega, i + 1, by omega, by omega, hc, by omega⟩
    · obtain rfl : i = l.length := by omega
      rw [fstI_ge (by omega)] at hc
      subst hc
      simp
theorem c117 {d lim : Nat} {h : Heap} {v : Value} {l : List Int} {x : Int} (s : SlI' h v l) (hl : l.length ≤ 100000) : E.call (d + 2) lim 117 [v, i64 x] h = some (.bool (decide (fstI (fun k => decide (x = gI l k)) l.length 0 < l.length)), h) := by
  have k122 := fun lim => c158 (d := d) (lim := lim) (x := x) (Sl_freeze.2 s) hl
  refine call1 fn117 rfl (by simp [ef117]) ?_
  generalize fstI (fun k => decide (x = gI l k)) l.length 0 = I at *
  by_cases z : I < l.length
  · simp [ef117, k122, z]
  · simp [ef117, k122, z]
end Z.U
end Go.Abs
/- Explanations: which tests failed, checked. -/
namespace Go.Abs
namespace Z.U
set_option maxRecDepth 100000
set_option maxHeartbeats 0
set_option linter.unusedSimpArgs false
theorem c113 {d lim p : Nat} {h : Heap} {v : Value} {l : List P4} {x : Int} {rw_ : Bool} (hp : h.get p = some ⟨[v], rw_⟩) (s : Sl4 h v l) (hl : l.length ≤ 1000) : E.call (d + 2) lim 113 [i64 x, pB p] h = some (.bool (!within x 0 ((l.length : Int) - 1)), h) := by
  have r := s.rules2
  have ck := cell_get (o := 0) hp
  have w : IntKind.wrap .i64 ((l.length : Int) - 1) = (l.length : Int) - 1 := wrap_eq (by omega) (by omega)
  refine call1 fn113 rfl (by simp [ef113]) ?_
  simp [ef113, ck, r, w, c54]
def cfE (l : List P4) (S : List Int) : Int := if chkTs l = 0 then (if (S.any fun x => !within x 0 ((l.length : Int) - 1)) = true then 6 else if ascB S = true then 0 else 9) else chkTs l
theorem c72 {d lim : Nat} {h : Heap} {v w : Value} {l : List P4} {S : List Int} (s : Sl4 h v l) (t : SlI' h w S) (hs : S.length ≤ 1000) : E.call (d + 5) lim 72 [v, w] h = some (i64 (cfE l S), h) := by
  have r := s.rules2
  have r' := t.rules2
  have k59 := fun (L : Heap) lim => c11 (d := d) (lim := lim) ((Sl_freeze.2 s).app L)
  have cv : v.cells = #[v] := by rcases s.low with e | ⟨_, _, _, _, e, _⟩ <;> subst e <;> rfl
  have gb : Heap.get (h.freeze ++ [some ⟨[v], true⟩]) h.length = some ⟨[v], true⟩ := by rw [hget_base0 (by simp)]; rfl
  refine call1 fn72 rfl (by simp [ef72]) ?_
  unfold cfE
  by_cases q0 : chkTs l = 0
  case neg => simp [-Value.cells, cv, ef72, k59, q0]
  have hl := (TOk.of q0).len
  have k83 := fun lim => c112 (d := d + 2) (lim := lim) (g := 113) (h := h.freeze ++ ([some ⟨[v], true⟩] : List (Option Blk))) (ca := #[pB h.length]) (p := fun x => !within x 0 ((l.length : Int) - 1)) ((Sl_freeze.2 t).app _) (by omega) (by simp) (by simp) (fun lim x => by
    have := c113 (d := d) (lim := lim) (x := x) (p := h.length) (h := Heap.freeze (h.freeze ++ ([some ⟨[v], true⟩] : List (Option Blk)))) (v := v) (l := l) (hget_freeze gb) (Sl_freeze.2 ((Sl_freeze.2 s).app _)) (by omega)
    simpa using this)
  have k113 := fun (L : Heap) lim => c114 (d := d + 3) (lim := lim) ((Sl_freeze.2 t).app L) hs
  generalize (S.any fun x => !within x 0 ((l.length : Int) - 1)) = A at *
  cases A
  · by_cases q2 : ascB S = true
    · simp [-Value.cells, cv, ef72, k59, q0, k83, k113, q2]
    · simp [-Value.cells, cv, ef72, k59, q0, k83, k113, q2]
  · simp [-Value.cells, cv, ef72, k59, q0, k83, k113]
end Z.U
end Go.Abs
/- Explanations: a number is searched in an ascending row. -/
namespace Go.Abs
namespace Z.U
set_option maxRecDepth 100000
set_option maxHeartbeats 0
set_option linter.unusedSimpArgs false
open Go.Sort (ltInt)
theorem c160 {d lim : Nat} {h : Heap} {a : Int} : E.call (d + 1) lim 160 [i64 a] h = some (.bool false, h) := by
  refine call1 fn160 rfl (by simp [ef160]) ?_
  simp [ef160]
/-- Numbers that ascend. -/
def AscL (l : List Int) : Prop := ∀ i j, i < j → j < l.length → gI l i < gI l j
def lowI (l : List Int) (x : Int) : Nat := fstI (fun i => decide (x ≤ gI l i)) l.length 0
theorem lowI_spec {l : List Int} (O : AscL l) (x : Int) : lowI l x ≤ l.length ∧ (∀ i, i < lowI l x → gI l i < x) ∧ ∀ i, lowI l x ≤ i → i < l.length → x ≤ gI l i := by
  obtain ⟨_, a, b, c⟩ := fstI_spec (p := fun i => decide (x ≤ gI l i)) (n := l.length) _ 0 rfl (by omega)
  refine ⟨a, fun i hi => ?_, fun i h1 h2 => ?_⟩
  · have := c i (by omega) hi
    simpa using this
  · have hb := b (by unfold lowI at h1; omega)
    have hb' : x ≤ gI l (lowI l x) := of_decide_eq_true hb
    rcases Nat.lt_or_ge (lowI l x) i with z | z
    · have := O _ _ z h2; omega
    · rw [show i = lowI l x by omega]; exact hb'
def fndI (l : List Int) (x : Int) : Bool := decide (lowI l x < l.length ∧ gI l (lowI l x) = x)
theorem c118 {d lim : Nat} {h : Heap} {v : Value} {l : List Int} {x : Int} (s : SlI' h v l) (O : AscL l) (hl : l.length ≤ 1000) : E.call (d + 3) lim 118 [v, i64 x] h = some (.tuple #[i64 (lowI l x : Int), .bool (fndI l x)], h) := by
  have r := s.rules2
  obtain ⟨sp1, sp2, sp3⟩ := lowI_spec O x
  have ef : fndI l x = decide (lowI l x < l.length ∧ gI l (lowI l x) = x) := rfl
  generalize fndI l x = F at *
  generalize lowI l x = T at *
  refine call1 fn118 rfl (by simp [ef118]) ?_
  have s0 : l.length ≠ 0 → slAt 1 v (i64 0) = some (.pointer (some ⟨slB v, slO v, none⟩)) := fun hz => by have := s.at (k := .i64) (i := 0) (by omega) (by omega); simpa using this
  have cc0 : l.length ≠ 0 → h.cell (slB v) (slO v) = some (i64 (gI l 0)) := fun hz => by
    have := s.cell 0 (by omega)
    rw [Nat.add_zero] at this
    rw [this, (ixL (l := l) (k := 0) (by omega)).2.1]
  simp [ef118, r]
  refine wpC_loop (fun q st => ∃ i j : Nat, q = j - i ∧ i ≤ T ∧ T ≤ j ∧ j ≤ l.length ∧ st = ⟨[(0, v), (1, i64 x), (6, i64 (l.length : Int)), (7, i64 (i : Int)), (8, i64 (j : Int))], h.freeze⟩) l.length (by show l.length < 2 ^ 64; omega) ?_ ?_
  · simp [St.tidy, r]
    exact ⟨0, l.length, by omega, by omega, by omega, by omega, rfl, rfl⟩
  · rintro q hq _ ⟨i, j, rfl, hi, hj, hjl, rfl⟩
    by_cases hlt : i < j
    · have hm : (i + j) / 2 < l.length := by omega
      have wa : IntKind.wrap .i64 ((i : Int) + j) = ((i + j : Nat) : Int) := by rw [wrap_eq (by omega) (by omega)]; omega
      have wu : IntKind.wrap .u64 ((i + j : Nat) : Int) = ((i + j : Nat) : Int) := wrapU2 (by omega) (by omega)
      have wh : IntKind.wrap .i64 (((i + j : Nat) : Int) / 2) = (((i + j) / 2 : Nat) : Int) := by rw [wrap_eq (by omega) (by omega)]; omega
      have mi : i ≤ (i + j) / 2 ∧ (i + j) / 2 < j := by omega
      generalize (i + j) / 2 = M at *
      generalize i + j = S at *
      have w1' := w1 (i := M) (by omega)
      obtain ⟨p1, p2, p3, p4, p5⟩ := ixL hm
      by_cases q : T ≤ M
      · have c0 : ltInt (gI l M) x = false := by have := sp3 M q hm; unfold ltInt; simpa using this
        simp [hlt, wa, wu, bin_shr1, wh, r, p1, p2, p3, p5, hm, Nat.not_le.2 hm, c159, c0, St.tidy]
        exact ⟨M - i, by omega, i, M, by omega, by omega, by omega, by omega, rfl, rfl⟩
      · have c0 : ltInt (gI l M) x = true := by have := sp2 M (by omega); unfold ltInt; simpa using this
        simp [hlt, wa, wu, bin_shr1, wh, r, p1, p2, p3, p5, hm, Nat.not_le.2 hm, c159, c0, w1', St.tidy]
        exact ⟨j - (M + 1), by omega, M + 1, j, by omega, by omega, by omega, by omega, by omega, rfl⟩
    · obtain rfl : i = T := by omega
      by_cases q : i < l.length
      · have qi : (i : Int) < l.length := by omega
        obtain ⟨p1, p2, p3, p4, p5⟩ := ixL q
        have s0 := s0 (by omega)
        have cc0 := cc0 (by omega)
        by_cases q2 : gI l i = x
        · simp [hlt, r, p1, p2, p3, p5, qi, q, Nat.not_le.2 q, c160, ef, q2]
        · simp [hlt, r, p1, p2, p3, p5, qi, q, Nat.not_le.2 q, c160, ef, q2]
      · have qi : ¬ (i : Int) < l.length := by omega
        simp [hlt, r, qi, q, ef]
end Z.U
end Go.Abs
/- Explanations: whether a set explains. -/
namespace Go.Abs
namespace Z.U
set_option maxRecDepth 100000
set_option maxHeartbeats 0
set_option linter.unusedSimpArgs false
def hasI (S : List Int) (x : Int) : Bool := decide (fstI (fun k => decide (x = gI S k)) S.length 0 < S.length)
def gapE (l : List P4) (F S : List Int) (i : Nat) : Int := if fndI F i = true ∧ hasI S (at4 l i).1 = false ∧ hasI S (at4 l i).2.1 = false then 14 else 0
def clK (l : List P4) (F S : List Int) : Nat → Bool
  | 0 => false
  | k + 1 => clK l F S k || (!fndI F k && (hasI S (at4 l k).1 != hasI S (at4 l k).2.1))
def exE (l : List P4) (F S : List Int) : Int := if fstE (gapE l F S) l.length 0 = 0 then (if clK l F S l.length = true then 13 else 0) else fstE (gapE l F S) l.length 0
theorem c74 {d lim : Nat} {h : Heap} {v w u : Value} {l : List P4} {F S : List Int} (s : Sl4 h v l) (t : SlI' h w F) (t2 : SlI' h u S) (O : AscL F) (hl : l.length ≤ 1000) (hf : F.length ≤ 1000) (hs : S.length ≤ 1000) :
    E.call (d + 4) lim 74 [v, w, u] h = some (i64 (exE l F S), h) := by
  have r := s.rules2
  have r' := t.rules2
  have r'' := t2.rules2
  refine call1 fn74 rfl (by simp [ef74]) ?_
  unfold exE
  generalize hG : fstE (gapE l F S) l.length 0 = G
  generalize hC : clK l F S l.length = C
  simp [ef74, r]
  refine wpC_loop (fun q st => ∃ (i : Nat) (cl : Bool), q = l.length - i ∧ i ≤ l.length ∧ fstE (gapE l F S) l.length i = G ∧ cl = clK l F S i ∧ st = ⟨[(1, w), (2, u), (7, .bool cl), (14, v), (15, i64 (l.length : Int)), (16, i64 (i : Int))], h.freeze⟩) l.length (by show l.length < 2 ^ 64; omega) ?_ ?_
  · simp [-Bool.exists_bool, St.tidy, r, r', r'']
    exact ⟨0, by omega, by omega, hG, rfl, rfl⟩
  · rintro q hq _ ⟨i, cl, rfl, hi, hc, hcl, rfl⟩
    by_cases lt : i < l.length
    · have lti : (i : Int) < l.length := by omega
      have w1' := w1 (i := i) (by omega)
      have p4 := c4_part lt
      have k4 : i * 4 + 4 ≤ l.length * 4 := by omega
      have s0 : slAt 4 v (i64 0) = some (.pointer (some ⟨slB v, slO v, none⟩)) := by have := s.at (k := .i64) (i := 0) (by omega) (by omega); simpa using this
      have ka := fun (L : Heap) lim => c117 (d := d + 1) (lim := lim) (x := (at4 l i).1) (Sl_freeze.2 ((Sl_freeze.2 t2).app L)) (by omega)
      have kb := fun (L : Heap) lim => c117 (d := d + 1) (lim := lim) (x := (at4 l i).2.1) ((Sl_freeze.2 t2).app L) (by omega)
      have kc := fun (L : Heap) lim => c118 (d := d) (lim := lim) (x := (i : Int)) ((Sl_freeze.2 t).app L) O hf
      rw [fstE_lt lt] at hc
      have hn : clK l F S (i + 1) = (cl || (!fndI F i && (hasI S (at4 l i).1 != hasI S (at4 l i).2.1))) := by rw [clK, hcl]
      have eg : gapE l F S i = if fndI F i = true ∧ hasI S (at4 l i).1 = false ∧ hasI S (at4 l i).2.1 = false then 14 else 0 := rfl
      rw [show decide (fstI (fun k => decide ((at4 l i).1 = gI S k)) S.length 0 < S.length) = hasI S (at4 l i).1 from rfl] at ka
      rw [show decide (fstI (fun k => decide ((at4 l i).2.1 = gI S k)) S.length 0 < S.length) = hasI S (at4 l i).2.1 from rfl] at kb
      generalize hasI S (at4 l i).1 = A at *
      generalize hasI S (at4 l i).2.1 = B at *
      generalize fndI F (i : Int) = Fd at *
      clear hcl
      cases Fd
      · rw [show gapE l F S i = 0 by rw [eg, if_neg (by simp)], if_pos rfl] at hc
        cases cl
        · simp [-Bool.exists_bool, lt, lti, Nat.not_le.2 lt, p4, k4, ka, kb, kc, r, r', r'', w1', St.tidy]
          exact ⟨l.length - (i + 1), by omega, i + 1, rfl, by omega, hc, by rw [hn]; cases A <;> cases B <;> rfl, by omega⟩
        · simp [-Bool.exists_bool, lt, lti, Nat.not_le.2 lt, p4, k4, ka, kb, kc, r, r', r'', w1', St.tidy]
          exact ⟨l.length - (i + 1), by omega, i + 1, rfl, by omega, hc, by rw [hn]; simp, by omega⟩
      · cases A <;> cases B
        · rw [show gapE l F S i = 14 by rw [eg, if_pos ⟨rfl, rfl, rfl⟩], if_neg (by decide)] at hc
          subst hc
          simp [-Bool.exists_bool, lt, lti, Nat.not_le.2 lt, p4, k4, ka, kb, kc, r, r', r'']
        all_goals
          rw [show gapE l F S i = 0 by rw [eg, if_neg (by simp)], if_pos rfl] at hc
          simp [-Bool.exists_bool, lt, lti, Nat.not_le.2 lt, p4, k4, ka, kb, kc, r, r', r'', w1', St.tidy]
          exact ⟨l.length - (i + 1), by omega, i + 1, rfl, by omega, hc, by rw [hn]; simp, by omega⟩
    · obtain rfl : i = l.length := by omega
      rw [fstE_ge lt] at hc
      rw [hC] at hcl
      subst hc hcl
      cases cl <;> simp
end Z.U
end Go.Abs
/- Explanations: plain facts. -/
namespace Go.Abs
namespace Z.U
set_option maxRecDepth 100000
theorem ascB_asc {l : List Int} (h : ascB l = true) : AscL l := by
  unfold ascB at h
  rw [decide_eq_true_eq, fstE_all _ 1 rfl] at h
  have st : ∀ i, i + 1 < l.length → gI l i < gI l (i + 1) := fun i hi => by
    have := h (i + 1) (by omega) hi
    unfold aErr at this
    by_cases z : 0 < i + 1 ∧ gI l (i + 1) ≤ gI l (i + 1 - 1)
    · rw [if_pos z] at this; cases this
    · rw [not_and] at z
      have := z (by omega)
      rw [Nat.add_sub_cancel] at this
      omega
  have go : ∀ k i, i + k + 1 < l.length → gI l i < gI l (i + k + 1) := fun k => by
    induction k with
    | zero => intro i hi; exact st i hi
    | succ k ih =>
      intro i hi
      have a := ih i (by omega)
      have b := st (i + k + 1) (by omega)
      rw [show i + (k + 1) + 1 = i + k + 1 + 1 by omega]; omega
  intro i j hij hj
  have := go (j - i - 1) i (by omega)
  rwa [show i + (j - i - 1) + 1 = j by omega] at this
theorem cfE_0 {l : List P4} {S : List Int} (h : cfE l S = 0) : TOk l ∧ (∀ x ∈ S, 0 ≤ x ∧ x < l.length) ∧ AscL S := by
  unfold cfE at h
  by_cases q0 : chkTs l = 0
  case neg => rw [if_neg q0] at h; exact absurd h q0
  rw [if_pos q0] at h
  by_cases q1 : (S.any fun x => !within x 0 ((l.length : Int) - 1)) = true
  · rw [if_pos q1] at h; cases h
  rw [if_neg q1] at h
  by_cases q2 : ascB S = true
  case neg => rw [if_neg q2] at h; cases h
  refine ⟨TOk.of q0, fun x hx => ?_, ascB_asc q2⟩
  have : within x 0 ((l.length : Int) - 1) = true := by
    rcases e : within x 0 ((l.length : Int) - 1) with _ | _
    · exact absurd (List.any_eq_true.2 ⟨x, hx, by rw [e]; rfl⟩) q1
    · rfl
  have := within_iffC.1 this
  omega
/-- A number is found where it stands. -/
theorem fndI_iff {l : List Int} (O : AscL l) {x : Int} : fndI l x = true ↔ x ∈ l := by
  obtain ⟨a, b, c⟩ := lowI_spec O x
  unfold fndI
  rw [decide_eq_true_eq]
  constructor
  · rintro ⟨h1, h2⟩; rw [← h2]; exact gI_mem h1
  · intro hx
    obtain ⟨i, hi, e⟩ := List.getElem_of_mem hx
    have ei : gI l i = x := by rw [gI_eq hi]; exact e
    have h1 : lowI l x ≤ i := by
      rcases Nat.lt_or_ge i (lowI l x) with z | z
      · have := b i z; omega
      · exact z
    have h2 := c (lowI l x) (Nat.le_refl _) (by omega)
    refine ⟨by omega, ?_⟩
    rcases Nat.lt_or_eq_of_le h1 with z | z
    · have := O _ _ z hi; omega
    · rw [z]; exact ei
theorem hasI_iff {S : List Int} {x : Int} : hasI S x = true ↔ x ∈ S := by
  unfold hasI
  rw [decide_eq_true_eq]
  obtain ⟨a1, a2, a3, a4⟩ := fstI_spec (p := fun k => decide (x = gI S k)) (n := S.length) _ 0 rfl (by omega)
  constructor
  · intro h
    have := a3 h
    rw [decide_eq_true_eq] at this
    rw [this]; exact gI_mem h
  · intro hx
    obtain ⟨i, hi, e⟩ := List.getElem_of_mem hx
    rcases Nat.lt_or_ge (fstI (fun k => decide (x = gI S k)) S.length 0) S.length with z | z
    · exact z
    · have := a4 i (by omega) (by omega)
      rw [decide_eq_false_iff_not, gI_eq hi] at this
      exact absurd e.symm this
end Z.U
end Go.Abs
