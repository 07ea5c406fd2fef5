/- Texts of chapter 7: the library's functions, one number. -/
import Derived.Test.YtllhkifkiabkbaaGreatDoorAbsHQM
import Derived.Test.YtllhkifkiabkbaaGreatDoorAbsHW1
import Derived.Test.YtllhkifkiabkbaaGreatDoorAbsDecN
import Derived.Test.YtllhkifkiabkbaaGreatDoorAbsNat3
set_option linter.unusedSimpArgs false
set_option linter.unusedVariables false
/- Texts of chapter 7: the library's functions, one number. -/
namespace Go.Abs
namespace H.U
set_option maxRecDepth 100000
set_option maxHeartbeats 0
set_option linter.unusedSimpArgs false
theorem c81 {d lim : Nat} {h : Heap} {l : List UInt8} : E.call (d + 2) lim 81 [tx l, .int .u8 10] h = some (i64 (Lib.indexByte l 10), h) := by
  have k : ∀ lim H, E.call (d + 1) lim 123 [tx l, .int .u8 10] H = some (i64 (Lib.indexByte l 10), H) := fun lim H => rfl
  refine call1 fn81 rfl (by simp [ef81]) ?_
  simp [ef81, k]
theorem c199 {d lim : Nat} {h : Heap} {l p : List UInt8} : E.call (d + 1) lim 199 [tx l, tx p] h = some (.bool (decide (l.take p.length = p)), h) := by
  refine call1 fn199 rfl (by simp [ef199]) ?_
  by_cases q : p.length ≤ l.length
  · have q2 : ¬ l.length < p.length := by omega
    simp [ef199, q, q2]
  · have q2 : l.length < p.length := by omega
    have : l.take p.length ≠ p := fun e => by
      have := congrArg List.length e
      rw [List.length_take] at this; omega
    simp [ef199, q, q2, this]
theorem c167 {d lim : Nat} {h : Heap} {l p : List UInt8} : E.call (d + 2) lim 167 [tx l, tx p] h = some (tx (if l.take p.length = p then l.drop p.length else l), h) := by
  refine call1 fn167 rfl (by simp [ef167]) ?_
  by_cases q : l.take p.length = p
  · have : p.length ≤ l.length := by
      have := congrArg List.length q
      rw [List.length_take] at this; omega
    simp [ef167, c199, q, this]
  · simp [ef167, c199, q]
theorem c126 {d lim : Nat} {h : Heap} {l p : List UInt8} : E.call (d + 3) lim 126 [tx l, tx p] h = some (tx (if l.take p.length = p then l.drop p.length else l), h) := by
  refine call1 fn126 rfl (by simp [ef126]) ?_
  simp [ef126, c167]
theorem trim_unsg (l : List UInt8) : (if l.take 1 = [45] then l.drop 1 else l) = unsg l := by
  rcases l with _ | ⟨c, r⟩
  · rfl
  · by_cases h : c = 45
    · subst h; rfl
    · simp [h, unsg]
/-- A line that ends with its mark. -/
theorem c124y {d lim : Nat} {h : Heap} {a : List UInt8} (hl : a.length < 1000000) : E.call (d + 1) lim 124 [tx (a ++ [10]), tx [10]] h = some (.bool true, h) := by
  refine call1 fn124 rfl (by simp [ef124]) ?_
  have w : IntKind.i64.wrap (a.length : Int) = (a.length : Int) := by rw [wrapR (by unfold R64; omega)]
  have t : (a ++ [10]).take (a.length + 1) = a ++ [10] := List.take_of_length_le (by simp)
  simp [ef124, w, t]
  omega
theorem c124n {d lim : Nat} {h : Heap} {a : List UInt8} (ha : (10 : UInt8) ∉ a) (hl : a.length < 1000000) : E.call (d + 1) lim 124 [tx a, tx [10]] h = some (.bool false, h) := by
  refine call1 fn124 rfl (by simp [ef124]) ?_
  rcases Nat.eq_zero_or_pos a.length with z | z
  · obtain rfl : a = [] := List.length_eq_zero_iff.1 z
    simp [ef124]
  · have w : IntKind.i64.wrap ((a.length : Int) - 1) = ((a.length - 1 : Nat) : Int) := by rw [wrapR (by unfold R64; omega)]; omega
    have t : ¬ (a.drop (a.length - 1) = [10]) := fun q => ha (by
      have : (10 : UInt8) ∈ a.drop (a.length - 1) := by rw [q]; simp
      exact List.mem_of_mem_drop this)
    have z1 : 1 ≤ a.length := z
    have z1' : (1 : Int) ≤ a.length := by omega
    simp [ef124, w, z1, z1', t]
    done
end H.U
end Go.Abs
/- Texts of chapter 7: numbers read by the code. -/
namespace Go.Abs
namespace H.U
set_option maxRecDepth 100000
set_option maxHeartbeats 0
set_option linter.unusedSimpArgs false
theorem c82y {d lim : Nat} {h : Heap} {a : List UInt8} (hl : a.length < 1000000) : E.call (d + 2) lim 82 [tx (a ++ [10]), tx [10]] h = some (.tuple #[tx a, .bool true], h) := by
  have k := fun H : Heap => c124y (d := d) (lim := h.length) (h := H) hl
  refine call1 fn82 rfl (by simp [ef82]) ?_
  have w : IntKind.i64.wrap (a.length : Int) = (a.length : Int) := by rw [wrapR (by unfold R64; omega)]
  simp [ef82, k, w]
theorem c82n {d lim : Nat} {h : Heap} {a : List UInt8} (ha : (10 : UInt8) ∉ a) (hl : a.length < 1000000) : E.call (d + 2) lim 82 [tx a, tx [10]] h = some (.tuple #[tx a, .bool false], h) := by
  have k := fun H : Heap => c124n (d := d) (lim := h.length) (h := H) ha hl
  refine call1 fn82 rfl (by simp [ef82]) ?_
  simp [ef82, k]
theorem c45y {d lim : Nat} {h : Heap} {a : List UInt8} (hl : a.length < 1000000) : E.call (d + 3) lim 45 [tx (a ++ [10]), tx [10]] h = some (.tuple #[tx a, .bool true], h) := by
  have k := fun H : Heap => c82y (d := d) (lim := h.length) (h := H) hl
  refine call1 fn45 rfl (by simp [ef45]) ?_
  simp [ef45, k]
theorem c45n {d lim : Nat} {h : Heap} {a : List UInt8} (ha : (10 : UInt8) ∉ a) (hl : a.length < 1000000) : E.call (d + 3) lim 45 [tx a, tx [10]] h = some (.tuple #[tx a, .bool false], h) := by
  have k := fun H : Heap => c82n (d := d) (lim := h.length) (h := H) ha hl
  refine call1 fn45 rfl (by simp [ef45]) ?_
  simp [ef45, k]
theorem c93 {d lim k : Nat} {h : Heap} {l : List UInt8} (e : H.Er h) (hl : l.length < 1000000) : E.call (d + 4) lim 93 [tx l, i64 (k : Int)] h = some (.tuple #[i64 (whl k l).1, .bool (whl k l).2], h) := by
  refine call1 fn93 rfl (by simp [ef93]) ?_
  have q := H.c125 (d := d + 2) (lim := h.length) e.freeze hl
  unfold whl
  rcases ha : Lib.atoiAll l with v | _ | _
  · rw [ha] at q
    simp only at q
    have r := H.R64_ok ha
    have t := trim_unsg l
    simp at t
    by_cases z : dec v = l
    · simp [ef93, q, H.c71 r, z, c126, t]
    · simp [ef93, q, H.c71 r, z]
  · rw [ha] at q
    simp only at q
    simp [ef93, q]
  · rw [ha] at q
    simp only at q
    simp [ef93, q]
def lVI (b : Nat) (L : List Int) : Value := if L = [] then .slice none 0 0 else .slice (some ⟨b, 0, none⟩) L.length 1
def lBI (L : List Int) : List (Option Blk) := if L = [] then [] else [some ⟨cI L, true⟩]
def wdA (ws : List (List UInt8)) (i : Nat) : List UInt8 := (ws[i]?).getD []
theorem wdA_get {ws : List (List UInt8)} {i : Nat} (h : i < ws.length) : (H.cT ws)[i]? = some (tx (wdA ws i)) := by
  apply H.cT_get
  unfold wdA
  rw [List.getElem?_eq_getElem h]; rfl
/-- What has been read of the first words. -/
def nmO (R : List UInt8 → Int × Bool) (ws : List (List UInt8)) : Nat → List Int
  | 0 => []
  | i + 1 => nmO R ws i ++ [(R (wdA ws i)).1]
theorem nmO_len (R : List UInt8 → Int × Bool) (ws : List (List UInt8)) : ∀ i, (nmO R ws i).length = i
  | 0 => rfl
  | i + 1 => by rw [nmO, List.length_append, nmO_len R ws i]; rfl
theorem nmO_take (R : List UInt8 → Int × Bool) (ws : List (List UInt8)) : ∀ i, i ≤ ws.length → nmO R ws i = (ws.take i).map (fun w => (R w).1)
  | 0, _ => rfl
  | i + 1, h => by
    rw [nmO, nmO_take R ws i (by omega), List.take_succ_eq_append_getElem (by omega), List.map_append]
    unfold wdA
    rw [List.getElem?_eq_getElem (by omega)]; rfl
theorem nmW_ok {R : List UInt8 → Int × Bool} {cnt : Nat} {ws : List (List UInt8)} (h : ∀ j, j < ws.length → (R (wdA ws j)).2 = true) : nmW R cnt ws = (nmO R ws ws.length, decide (ws.length = cnt)) := by
  unfold nmW
  rw [if_pos, nmO_take R ws _ (Nat.le_refl _), List.take_length]
  rw [List.all_eq_true]
  intro w hw
  obtain ⟨j, hj, rfl⟩ := List.getElem_of_mem hw
  have := h j hj
  unfold wdA at this
  rw [List.getElem?_eq_getElem hj] at this
  exact this
theorem nmW_bad {R : List UInt8 → Int × Bool} {cnt : Nat} {ws : List (List UInt8)} {j : Nat} (hj : j < ws.length) (h : (R (wdA ws j)).2 = false) : nmW R cnt ws = ([], false) := by
  unfold nmW
  rw [if_neg]
  intro q
  have := List.all_eq_true.1 q ws[j] (List.getElem_mem hj)
  unfold wdA at h
  rw [List.getElem?_eq_getElem hj] at h
  rw [show (R ws[j]).2 = false from h] at this; cases this
theorem wd_len (c : UInt8) : ∀ (s : List UInt8) (w : List UInt8), w ∈ cutB c s → w.length ≤ s.length
  | [], w, h => by simp [cutB] at h; subst h; exact Nat.le_refl _
  | x :: r, w, h => by
    unfold cutB at h
    split at h
    · rcases List.mem_cons.1 h with q | q
      · subst q; simp
      · have := wd_len c r w q; rw [List.length_cons]; omega
    · rcases e : cutB c r with _ | ⟨v, vs⟩
      · rw [e] at h; cases h
      · rw [e] at h
        rcases List.mem_cons.1 h with q | q
        · have := wd_len c r v (by rw [e]; simp)
          subst q; simp; exact this
        · have := wd_len c r w (by rw [e]; simp [q]); rw [List.length_cons]; omega
theorem wdA_len (c : UInt8) (s : List UInt8) (i : Nat) : (wdA (cutB c s) i).length ≤ s.length := by
  unfold wdA
  rcases e : (cutB c s)[i]? with _ | w
  · simp
  · exact wd_len c s w (List.mem_of_getElem? e)
theorem cut_cnt (c : UInt8) (s : List UInt8) : (cutB c s).length ≤ s.length + 1 := by
  rw [H.cutB_count]
  have := List.count_le_length (a := c) (l := s)
  omega
theorem cI_pl (l : List Int) : (cI l).all plainV = true := by simp [cI, plainV]
theorem cI_snoc (l : List Int) (x : Int) : cI l ++ [i64 x] = cI (l ++ [x]) := by simp [cI]
end H.U
end Go.Abs
/- Texts of chapter 7: rows of numbers, read by the code and by the reference. -/
namespace Go.Abs
namespace H.U
set_option maxRecDepth 100000
set_option maxHeartbeats 0
set_option linter.unusedSimpArgs false
theorem c55 {d lim cnt k : Nat} {h : Heap} {s : List UInt8} (e : H.Er h) (hl : s.length < 100000) (hc : cnt ≤ 100) (hk : k ≤ 17) : E.call (d + 5) lim 55 [tx s, i64 (cnt : Int), i64 (k : Int)] h = some (.tuple #[lVI h.length (nmP (whl k) cnt s).1, .bool (nmP (whl k) cnt s).2], h ++ lBI (nmP (whl k) cnt s).1) := by
  refine call_pure fn55 rfl (by simp [ef55]) ?_
  have kSp := fun H' : Heap => H.c47 (d := d) (lim := h.length) (h := H') (s := s) (c := 32) (by omega)
  have wl := fun i => wdA_len 32 s i
  have wn := cut_cnt 32 s
  have w0 := List.length_pos_iff.2 (cutB_ne 32 s)
  simp only [H.lVT, H.lBT, if_neg (cutB_ne 32 s)] at kSp
  unfold nmP
  have wne : ¬ cutB 32 s = [] := cutB_ne 32 s
  generalize cutB 32 s = W at *
  simp [-collect_own1, ef55, kSp]
  refine wpC_loop (fun y st => ∃ i : Nat, y = W.length - i ∧ i ≤ W.length ∧ (∀ j, j < i → (whl k (wdA W j)).2 = true) ∧ st = ⟨[(1, i64 (cnt : Int)), (2, i64 (k : Int)), (9, lVI h.length (nmO (whl k) W i)), (16, .slice (some ⟨h.length + (if i = 0 then 0 else 1), 0, none⟩) W.length 1), (17, i64 (W.length : Nat)), (18, i64 (i : Nat))], h.freeze ++ (lBI (nmO (whl k) W i) ++ [some ⟨H.cT W, true⟩])⟩) W.length (by show W.length < 2 ^ 64; omega) ?_ ?_
  · have cw := H.cT_plain' W
    simp [-collect_own1, St.tidy, collect_box, cw]
    exact ⟨0, by omega, by omega, fun j hj => by omega, ⟨rfl, rfl, rfl⟩, rfl⟩
  · rintro y hy _ ⟨i, rfl, hi, ha, rfl⟩
    have cw := H.cT_plain' W
    have ol := nmO_len (whl k) W i
    have op := cI_pl (nmO (whl k) W i)
    by_cases hlt : i < W.length
    · have hlt' : (i : Int) < W.length := by omega
      have w1' : IntKind.i64.wrap ((i : Int) + 1) = ((i + 1 : Nat) : Int) := by rw [wrap_eq (by omega) (by omega)]; rfl
      have gi := wdA_get hlt
      have qn : ∀ L, E.call (d + 4) h.length 93 [tx (wdA W i), i64 (k : Int)] (h.freeze ++ L) = some (.tuple #[i64 (whl k (wdA W i)).1, .bool (whl k (wdA W i)).2], h.freeze ++ L) := fun L => c93 (d := d) e.freeze.app (by have := wl i; omega)
      rcases hx : whl k (wdA W i) with ⟨x, u⟩
      rw [hx] at qn
      have on : nmO (whl k) W (i + 1) = nmO (whl k) W i ++ [x] := by rw [nmO, hx]
      have op2 := cI_pl (nmO (whl k) W (i + 1))
      have sn := cI_snoc (nmO (whl k) W i) x
      rw [← on] at sn
      have ne1 : ¬ nmO (whl k) W (i + 1) = [] := fun z => by have := nmO_len (whl k) W (i + 1); rw [z] at this; cases this
      have clen : (cI (nmO (whl k) W i)).length = i := by simp [cI, ol]
      rcases u with _ | _
      · have bad := nmW_bad (R := whl k) (cnt := cnt) hlt (by rw [hx])
        rw [bad]
        rcases Nat.eq_zero_or_pos i with z | z
        · subst z
          simp [-collect_own1, nmO, lVI, lBI, hlt, wne, gi, qn]
        · have ne : ¬ nmO (whl k) W i = [] := fun z => by rw [z] at ol; simp at ol; omega
          have i0 : ¬ i = 0 := by omega
          have nlt : ¬ W.length ≤ i := by omega
          simp [-collect_own1, lVI, lBI, ne, i0, hlt, hlt', nlt, gi, qn, ol]
      · rcases Nat.eq_zero_or_pos i with z | z
        · subst z
          have sn0 : [i64 x] = cI (nmO (whl k) W 1) := sn
          simp [-collect_own1, nmO, lVI, lBI, hlt, wne, gi, qn, w1', fillL, zeros, E.append, E.added, St.tidy, collect_box, cw]
          exact ⟨by decide, W.length - 1, by omega, 1, by omega, by omega, fun j hj => by
            obtain rfl : j = 0 := by omega
            rw [hx], ⟨by rw [if_neg ne1, nmO_len], by simp⟩, by rw [if_neg ne1, ← sn0]; rfl⟩
        · have ne : ¬ nmO (whl k) W i = [] := fun z => by rw [z] at ol; simp at ol; omega
          have i0 : ¬ i = 0 := by omega
          have nlt : ¬ W.length ≤ i := by omega
          simp [-collect_own1, lVI, lBI, ne, i0, hlt, hlt', nlt, gi, qn, ol, w1', fillL, zeros, E.append, E.added, clen, sn, op2, Nat.add_assoc, St.tidy, collect_box, cw]
          exact ⟨⟨by omega, by unfold maxLen; omega⟩, W.length - (i + 1), by omega, i + 1, by omega, by omega, fun j hj => by
            by_cases q : j = i
            · subst q; rw [hx]
            · exact ha j (by omega), ⟨by rw [if_neg ne1, nmO_len], by omega, by omega⟩, by rw [if_neg ne1]; rfl⟩
    · obtain rfl : i = W.length := by omega
      have ne : ¬ nmO (whl k) W W.length = [] := fun z => by rw [z] at ol; simp at ol; omega
      have i0 : ¬ W.length = 0 := by omega
      rw [nmW_ok ha]
      have bq : ((W.length : Int) == (cnt : Int)) = decide (W.length = cnt) := by rw [Bool.eq_iff_iff]; simp; omega
      simp [lVI, lBI, ne, i0, ol, op, bq]
theorem c57 {d lim cnt k : Nat} {h : Heap} {s : List UInt8} (hl : s.length < 100000) (hc : cnt ≤ 100) (hk : k ≤ 17) : E.call (d + 5) lim 57 [tx s, i64 (cnt : Int), i64 (k : Int)] h = some (.tuple #[lVI h.length (nmP (rdn k) cnt s).1, .bool (nmP (rdn k) cnt s).2], h ++ lBI (nmP (rdn k) cnt s).1) := by
  refine call_pure fn57 rfl (by simp [ef57]) ?_
  have kSp : ∀ H' : Heap, E.call (d + 4) h.length 49 [tx s, .int .u8 32] H' = some (H.lVT H'.length (cutB 32 s), H' ++ H.lBT (cutB 32 s)) := fun H' => H.c49 (d := d + 3) (c := 32) (by omega)
  have wl := fun i => wdA_len 32 s i
  have wn := cut_cnt 32 s
  have w0 := List.length_pos_iff.2 (cutB_ne 32 s)
  simp only [H.lVT, H.lBT, if_neg (cutB_ne 32 s)] at kSp
  unfold nmP
  have wne : ¬ cutB 32 s = [] := cutB_ne 32 s
  generalize cutB 32 s = W at *
  simp [-collect_own1, ef57, kSp]
  refine wpC_loop (fun y st => ∃ i : Nat, y = W.length - i ∧ i ≤ W.length ∧ (∀ j, j < i → (rdn k (wdA W j)).2 = true) ∧ st = ⟨[(1, i64 (cnt : Int)), (2, i64 (k : Int)), (8, .slice (some ⟨h.length, 0, none⟩) W.length 1), (9, lVI (h.length + 1) (nmO (rdn k) W i)), (10, i64 (i : Nat))], h.freeze ++ ([some ⟨H.cT W, true⟩] ++ lBI (nmO (rdn k) W i))⟩) W.length (by show W.length < 2 ^ 64; omega) ?_ ?_
  · have cw := H.cT_plain' W
    simp [-collect_own1, St.tidy, collect_box, cw]
    exact ⟨0, by omega, by omega, fun j hj => by omega, ⟨rfl, rfl⟩, rfl⟩
  · rintro y hy _ ⟨i, rfl, hi, ha, rfl⟩
    have cw := H.cT_plain' W
    have ol := nmO_len (rdn k) W i
    have op := cI_pl (nmO (rdn k) W i)
    by_cases hlt : i < W.length
    · have hlt' : (i : Int) < W.length := by omega
      have w1' : IntKind.i64.wrap ((i : Int) + 1) = ((i + 1 : Nat) : Int) := by rw [wrap_eq (by omega) (by omega)]; rfl
      have gi := wdA_get hlt
      have qn : ∀ L, E.call (d + 4) h.length 95 [tx (wdA W i), i64 (k : Int)] (h.freeze ++ L) = some (.tuple #[i64 (rdn k (wdA W i)).1, .bool (rdn k (wdA W i)).2], h.freeze ++ L) := fun L => H.c95 (d := d + 1) (by omega) (by have := wl i; omega)
      rcases hx : rdn k (wdA W i) with ⟨x, u⟩
      rw [hx] at qn
      have on : nmO (rdn k) W (i + 1) = nmO (rdn k) W i ++ [x] := by rw [nmO, hx]
      have op2 := cI_pl (nmO (rdn k) W (i + 1))
      have sn := cI_snoc (nmO (rdn k) W i) x
      rw [← on] at sn
      have ne1 : ¬ nmO (rdn k) W (i + 1) = [] := fun z => by have := nmO_len (rdn k) W (i + 1); rw [z] at this; cases this
      have clen : (cI (nmO (rdn k) W i)).length = i := by simp [cI, ol]
      rcases u with _ | _
      · have bad := nmW_bad (R := rdn k) (cnt := cnt) hlt (by rw [hx])
        rw [bad]
        rcases Nat.eq_zero_or_pos i with z | z
        · subst z
          simp [-collect_own1, nmO, lVI, lBI, hlt, wne, gi, qn]
        · have ne : ¬ nmO (rdn k) W i = [] := fun z => by rw [z] at ol; simp at ol; omega
          have i0 : ¬ i = 0 := by omega
          have nlt : ¬ W.length ≤ i := by omega
          simp [-collect_own1, lVI, lBI, ne, i0, hlt, hlt', nlt, gi, qn, ol]
      · rcases Nat.eq_zero_or_pos i with z | z
        · subst z
          have sn0 : [i64 x] = cI (nmO (rdn k) W 1) := sn
          simp [-collect_own1, nmO, lVI, lBI, hlt, wne, gi, qn, w1', fillL, zeros, E.append, E.added, St.tidy, collect_box, cw]
          exact ⟨by decide, W.length - 1, by omega, 1, by omega, by omega, fun j hj => by
            obtain rfl : j = 0 := by omega
            rw [hx], ⟨by rw [if_neg ne1, nmO_len], by omega⟩, by rw [if_neg ne1, ← sn0]⟩
        · have ne : ¬ nmO (rdn k) W i = [] := fun z => by rw [z] at ol; simp at ol; omega
          have i0 : ¬ i = 0 := by omega
          have nlt : ¬ W.length ≤ i := by omega
          simp [-collect_own1, lVI, lBI, ne, i0, hlt, hlt', nlt, gi, qn, ol, w1', fillL, zeros, E.append, E.added, clen, sn, op2, Nat.add_assoc, St.tidy, collect_box, cw]
          exact ⟨⟨by omega, by unfold maxLen; omega⟩, W.length - (i + 1), by omega, i + 1, by omega, by omega, fun j hj => by
            by_cases q : j = i
            · subst q; rw [hx]
            · exact ha j (by omega), ⟨by rw [if_neg ne1, nmO_len], by omega⟩, by rw [if_neg ne1]⟩
    · obtain rfl : i = W.length := by omega
      have ne : ¬ nmO (rdn k) W W.length = [] := fun z => by rw [z] at ol; simp at ol; omega
      have i0 : ¬ W.length = 0 := by omega
      rw [nmW_ok ha]
      have bq : ((W.length : Int) == (cnt : Int)) = decide (W.length = cnt) := by rw [Bool.eq_iff_iff]; simp; omega
      simp [lVI, lBI, ne, i0, ol, op, bq]
end H.U
end Go.Abs
/- Texts of chapter 7: rows of numbers, written. -/
namespace Go.Abs
namespace H.U
set_option maxRecDepth 100000
set_option maxHeartbeats 0
set_option linter.unusedSimpArgs false
def gI (g : List Int) (i : Nat) : Int := g.getD i 0
theorem gI_eq {g : List Int} {i : Nat} (h : i < g.length) : gI g i = g[i] := by unfold gI; rw [List.getD_eq_getElem?_getD, List.getElem?_eq_getElem h]; rfl
theorem ixL {l : List Int} {k : Nat} (hk : k < l.length) : (k : Int) < (l.length : Int) ∧ (cI l)[k]? = some (i64 (gI l k)) ∧ (∀ hh, (cI l)[k]'hh = i64 (gI l k)) ∧ k + 1 ≤ l.length ∧ k < l.length := by
  have e : (cI l)[k]? = some (i64 (gI l k)) := by rw [cI_get, gI_eq hk, List.getElem?_eq_getElem hk]; rfl
  refine ⟨by omega, e, fun hh => ?_, by omega, hk⟩
  rw [List.getElem?_eq_getElem hh] at e
  exact Option.some.inj e
theorem cT_strs (L : List (List UInt8)) : strsOf (H.cT L) = some (L.map fun l => ⟨l.toArray⟩) := by
  have : H.cT L = (L.map fun l => (⟨l.toArray⟩ : ByteArray)).map .string := by simp [H.cT]
  rw [this, strsOf_map]
theorem c72 {d lim b n : Nat} {h : Heap} {L : List (List UInt8)} {sep : List UInt8} {rw : Bool} (hb : h.get b = some ⟨H.cT L, rw⟩) (hn : n = L.length) (h1 : n ≤ 1000) (h2 : (Lib.join L sep).length ≤ 100000) :
    E.call (d + 1) lim 72 [.slice (some ⟨b, 0, none⟩) n 1, tx sep] h = some (tx (Lib.join L sep), h) := by
  show natJoin [.slice (some ⟨b, 0, none⟩) n 1, tx sep] h = _
  have e : (List.map (fun l : List UInt8 => (⟨l.toArray⟩ : ByteArray)) L).map (fun x => x.data.toList) = L := by rw [List.map_map]; simp [Function.comp_def]
  have tk : ((H.cT L).drop 0).take n = H.cT L := by rw [List.drop_zero, List.take_of_length_le (by rw [H.cT_len]; omega)]
  unfold natJoin
  simp only [hb, tk, cT_strs]
  rw [if_pos ⟨by rw [List.length_map, hn], by omega, by rw [e]; show (Lib.join L sep).length ≤ _; omega⟩, e]
theorem dec_len {n : Int} (hn : R64 n) : (dec n).length ≤ 21 := by
  have := (digs_len (n := n.natAbs) 20 (by decide)).2 (by unfold R64 at hn; omega)
  by_cases a : n < 0
  · rw [dec_neg a, List.length_cons]; omega
  · rw [dec_nn a]; omega
theorem rowL_len : ∀ l : List Int, (∀ n ∈ l, R64 n) → (rowL l).length ≤ 22 * l.length
  | [], _ => by simp [rowL]
  | [n], h => by have := dec_len (h n (by simp)); simp [rowL]; omega
  | n :: m :: r, h => by
    have a := dec_len (h n (by simp))
    have b := rowL_len (m :: r) fun x hx => h x (List.mem_cons_of_mem _ hx)
    rw [rowL_cons, List.length_append, List.length_cons]
    simp only [List.length_cons] at b ⊢
    omega
/-- The texts of the first numbers. -/
def deO (l : List Int) : Nat → List (List UInt8)
  | 0 => []
  | i + 1 => deO l i ++ [dec (gI l i)]
theorem deO_len (l : List Int) : ∀ i, (deO l i).length = i
  | 0 => rfl
  | i + 1 => by rw [deO, List.length_append, deO_len l i]; rfl
theorem deO_take (l : List Int) : ∀ i, i ≤ l.length → deO l i = (l.take i).map dec
  | 0, _ => rfl
  | i + 1, h => by
    rw [deO, deO_take l i (by omega), List.take_succ_eq_append_getElem (by omega), List.map_append, gI_eq (by omega)]; rfl
theorem c59 {d lim : Nat} {h : Heap} {v : Value} {l : List Int} (s : SlI' h v l) (h0 : l ≠ []) (hl : l.length ≤ 100) (hR : ∀ n ∈ l, R64 n) : E.call (d + 2) lim 59 [v] h = some (tx (rowL l), h) := by
  have r := s.rules2
  have l0 := List.length_pos_iff.2 h0
  refine call1 fn59 rfl (by simp [ef59]) ?_
  simp [ef59, r]
  refine wpC_loop (fun y st => ∃ i : Nat, y = l.length - i ∧ i ≤ l.length ∧ st = ⟨[(3, H.lVT h.length (deO l i)), (6, v), (7, i64 (l.length : Nat)), (8, i64 (i : Nat))], h.freeze ++ H.lBT (deO l i)⟩) l.length (by show l.length < 2 ^ 64; omega) ?_ ?_
  · simp [-collect_own1, St.tidy, r, collect_box, s.own]
    exact ⟨0, by omega, by omega, ⟨rfl, rfl⟩, rfl⟩
  · rintro y hy _ ⟨i, rfl, hi, rfl⟩
    have ol := deO_len l i
    have op := H.cT_plain' (deO l i)
    by_cases hlt : i < l.length
    · have w1' : IntKind.i64.wrap ((i : Int) + 1) = ((i + 1 : Nat) : Int) := by rw [wrap_eq (by omega) (by omega)]; rfl
      obtain ⟨p1, p2, p3, p4, p5⟩ := ixL hlt
      have k71 := fun H' : Heap => H.c71 (d := d) (lim := h.length) (h := H') (n := gI l i) (by rw [gI_eq hlt]; exact hR _ (List.getElem_mem hlt))
      have on : deO l (i + 1) = deO l i ++ [dec (gI l i)] := rfl
      have sn := H.cT_snoc (deO l i) (dec (gI l i))
      rw [← on] at sn
      have op2 := H.cT_plain' (deO l (i + 1))
      have ne1 : ¬ deO l (i + 1) = [] := fun z => by have := deO_len l (i + 1); rw [z] at this; cases this
      have clen := H.cT_len (deO l i)
      rw [ol] at clen
      rcases Nat.eq_zero_or_pos i with z | z
      · subst z
        have s0 : slAt 1 v (i64 0) = some (.pointer (some ⟨slB v, slO v, none⟩)) := by have := s.at (k := .i64) (i := 0) (by omega) (by omega); simpa using this
        have cc0 : h.cell (slB v) (slO v) = some (i64 (gI l 0)) := by
          have := s.cell 0 (by omega)
          rw [Nat.add_zero] at this
          rw [this, p2]
        have sn0 : [tx (dec (gI l 0))] = H.cT (deO l 1) := sn
        simp [-collect_own1, deO, H.lVT, H.lBT, hlt, l0, h0, s0, cc0, k71, r, fillL, zeros, E.append, E.added, w1', St.tidy, collect_box, s.own]
        exact ⟨by decide, l.length - 1, by omega, 1, by omega, by omega, ⟨by rw [if_neg ne1, deO_len], by omega⟩, by rw [if_neg ne1, ← sn0]⟩
      · have ne : ¬ deO l i = [] := fun z => by rw [z] at ol; simp at ol; omega
        have i0 : ¬ i = 0 := by omega
        simp [-collect_own1, H.lVT, H.lBT, ne, i0, ol, hlt, Nat.not_le.2 hlt, p1, p2, p3, p4, k71, r, fillL, zeros, E.append, E.added, clen, sn, op2, w1', Nat.add_assoc, St.tidy, collect_box, s.own]
        exact ⟨⟨by omega, by unfold maxLen; omega⟩, l.length - (i + 1), by omega, i + 1, by omega, by omega, ⟨by rw [if_neg ne1, deO_len], by omega⟩, by rw [if_neg ne1]⟩
    · obtain rfl : i = l.length := by omega
      have ne : ¬ deO l l.length = [] := fun z => by rw [z] at ol; simp at ol; omega
      have rl := rowL_len l hR
      have je : Lib.join (deO l l.length) [32] = rowL l := by rw [deO_take l _ (Nat.le_refl _), List.take_length, rowL_join]
      have gb : Heap.get (h.freeze ++ [some ⟨H.cT (deO l l.length), true⟩]) h.length = some ⟨H.cT (deO l l.length), true⟩ := by rw [hget_base0 (by simp)]; simp
      have j := c72 (d := d) (lim := h.length) (n := l.length) (sep := [32]) gb ol.symm (by omega) (by rw [je]; omega)
      rw [je] at j
      simp [H.lVT, H.lBT, ne, ol, r, j]
end H.U
end Go.Abs
/- Texts of chapter 7: readings. -/
namespace Go.Abs
namespace H.U
set_option maxRecDepth 100000
set_option maxHeartbeats 0
set_option linter.unusedSimpArgs false
abbrev c2 (a b : Int) : Value := .agg #[i64 a, i64 b]
theorem c58 {d lim : Nat} {h : Heap} {n : Int} : E.call (d + 2) lim 58 [i64 n] h = some (.bool (within n 0 100000), h) := by
  refine call1 fn58 rfl (by simp [ef58]) ?_
  simp [ef58, c41]
def rdE (a b : Int) : Int := if within a 0 100000 = true ∧ within b 0 1000 = true then 0 else 2
theorem c56 {d lim : Nat} {h : Heap} {a b : Int} : E.call (d + 3) lim 56 [c2 a b] h = some (i64 (rdE a b), h) := by
  refine call1 fn56 rfl (by simp [ef56]) ?_
  unfold rdE
  by_cases q1 : within a 0 100000 = true <;> by_cases q2 : within b 0 1000 = true <;> simp [ef56, c94, c90, q1, q2]
/-- A reading that is read. -/
def rdgV (R : List UInt8 → Int × Bool) (s : List UInt8) : Int × Int × Int :=
  if (nmP R 2 s).2 then (if rdE (gI (nmP R 2 s).1 0) (gI (nmP R 2 s).1 1) = 0 then (gI (nmP R 2 s).1 0, gI (nmP R 2 s).1 1, 0) else (0, 0, 2)) else (0, 0, 7)
abbrev tuR (x : Int × Int × Int) : Value := .tuple #[c2 x.1 x.2.1, i64 x.2.2]
theorem two_of {l : List Int} (h : l.length = 2) : ∃ a b, l = [a, b] := by
  match l, h with
  | [a, b], _ => exact ⟨a, b, rfl⟩
theorem c17 {d lim : Nat} {h : Heap} {s : List UInt8} (e : H.Er h) (hl : s.length < 100000) : E.call (d + 6) lim 17 [tx s] h = some (tuR (rdgV (whl 7) s), h) := by
  have k55 : ∀ L, E.call (d + 5) h.length 55 [tx s, i64 2, i64 7] (h.freeze ++ L) = some (.tuple #[lVI (h.freeze ++ L).length (nmP (whl 7) 2 s).1, .bool (nmP (whl 7) 2 s).2], (h.freeze ++ L) ++ lBI (nmP (whl 7) 2 s).1) := fun L => c55 (d := d) (cnt := 2) (k := 7) e.freeze.app hl (by omega) (by omega)
  refine call1 fn17 rfl (by simp [ef17]) ?_
  unfold rdgV
  rcases hx : nmP (whl 7) 2 s with ⟨l, u⟩
  rw [hx] at k55
  rcases u with _ | _
  · simp [ef17, k55]
  · have l2 : l.length = 2 := by have := nmP_len (R := whl 7) (cnt := 2) (s := s) (by rw [hx]); rw [hx] at this; exact this
    obtain ⟨a, b, rfl⟩ := two_of l2
    simp only [lVI, lBI, if_neg (show ¬ [a, b] = [] by simp)] at k55
    have g0 : gI [a, b] 0 = a := rfl
    have g1 : gI [a, b] 1 = b := rfl
    have ce : cI [a, b] = [i64 a, i64 b] := rfl
    simp only [ce] at k55
    by_cases z : rdE a b = 0
    · simp [ef17, k55, c56, z, g0, g1, fillL]
    · have z2 : rdE a b = 2 := by
        unfold rdE at z ⊢
        by_cases q : within a 0 100000 = true ∧ within b 0 1000 = true
        · rw [if_pos q] at z; exact absurd rfl z
        · rw [if_neg q]
      simp [ef17, k55, c56, z2, g0, g1, fillL]
theorem c18r {d lim : Nat} {h : Heap} {s : List UInt8} (hl : s.length < 100000) : E.call (d + 6) lim 18 [tx s] h = some (tuR (rdgV (rdn 7) s), h) := by
  have k57 : ∀ L, E.call (d + 5) h.length 57 [tx s, i64 2, i64 7] (h.freeze ++ L) = some (.tuple #[lVI (h.freeze ++ L).length (nmP (rdn 7) 2 s).1, .bool (nmP (rdn 7) 2 s).2], (h.freeze ++ L) ++ lBI (nmP (rdn 7) 2 s).1) := fun L => c57 (d := d) (cnt := 2) (k := 7) hl (by omega) (by omega)
  refine call1 fn18 rfl (by simp [ef18]) ?_
  unfold rdgV
  rcases hx : nmP (rdn 7) 2 s with ⟨l, u⟩
  rw [hx] at k57
  rcases u with _ | _
  · simp [ef18, k57]
  · have l2 : l.length = 2 := by have := nmP_len (R := rdn 7) (cnt := 2) (s := s) (by rw [hx]); rw [hx] at this; exact this
    obtain ⟨a, b, rfl⟩ := two_of l2
    simp only [lVI, lBI, if_neg (show ¬ [a, b] = [] by simp)] at k57
    have g0 : gI [a, b] 0 = a := rfl
    have g1 : gI [a, b] 1 = b := rfl
    have ce : cI [a, b] = [i64 a, i64 b] := rfl
    simp only [ce] at k57
    unfold rdE
    by_cases q1 : within a 0 100000 = true <;> by_cases q2 : within b 0 1000 = true <;> simp [ef18, k57, c58, c41, q1, q2, g0, g1, fillL]
theorem rdg_same (s : List UInt8) : rdgV (whl 7) s = rdgV (rdn 7) s := by
  unfold rdgV; rw [nm_same (by decide) (by decide)]
theorem c19f {d lim : Nat} {h : Heap} {a b : Int} (ha : R64 a) (hb : R64 b) : E.call (d + 4) lim 19 [c2 a b] h = some (tx (rowL [a, b]), h) := by
  have k59 : ∀ H' : Heap, ∀ k rw, H'.get k = some ⟨cI [a, b], rw⟩ → E.call (d + 3) h.length 59 [.slice (some ⟨k, 0, none⟩) 2 1] H' = some (tx (rowL [a, b]), H') := fun H' k rw g => c59 (d := d + 1) (SlI'_own g rfl) (by simp) (by simp) (by intro n hn; simp at hn; rcases hn with rfl | rfl <;> assumption)
  refine call1 fn19 rfl (by simp [ef19]) ?_
  have g : Heap.get (h.freeze ++ [some ⟨[i64 a, i64 b], true⟩, some ⟨[i64 a, i64 b], true⟩]) (h.length + 1) = some ⟨cI [a, b], true⟩ := by rw [hget_base (by simp)]; rfl
  have k := k59 _ _ _ g
  simp [ef19, k, fillL]
theorem c20f {d lim : Nat} {h : Heap} {a b : Int} (ha : R64 a) (hb : R64 b) : E.call (d + 4) lim 20 [c2 a b] h = some (tx (rowL [a, b]), h) := by
  have d1 := fun H' : Heap => H.c60 (d := d + 1) (lim := h.length) (h := H') ha
  have d2 := fun H' : Heap => H.c60 (d := d + 1) (lim := h.length) (h := H') hb
  have l1 := dec_len ha
  have l2 := dec_len hb
  have e : rowL [a, b] = dec a ++ [32] ++ dec b := by rw [rowL_cons]; simp [rowL]
  rw [e]
  have a1 : E.bin .add (tx (dec a)) (.string ⟨[32].toArray⟩) = some (tx (dec a ++ [32])) := bin_sadd (by simp; omega)
  have a2 : E.bin .add (tx (dec a ++ [32])) (tx (dec b)) = some (tx (dec a ++ [32] ++ dec b)) := bin_sadd (by simp; omega)
  generalize dec a ++ [32] ++ dec b = q2 at *
  generalize dec a ++ [32] = q1 at *
  refine call1 fn20 rfl (by simp [ef20]) ?_
  simp [ef20, d1, d2, a1, a2]
end H.U
end Go.Abs
