/- Chapter 2: the greatest length, the least gauge: plain. -/
import Derived.Test.YtodofkolnmoliaaDoorAbsXVM
import Derived.Test.YtodofkolnmoliaaDoorAbsWpO
set_option linter.unusedSimpArgs false
set_option linter.unusedVariables false
/- Chapter 2: the greatest length, the least gauge: plain. -/
namespace Go.Abs
namespace X
set_option maxRecDepth 100000
set_option maxHeartbeats 0
theorem thr (Q : Nat → Bool) : ∀ N : Nat, (∀ k, k + 1 < N → Q k = true → Q (k + 1) = true) → ∃ T, T ≤ N ∧ ∀ k, k < N → Q k = decide (T ≤ k)
  | 0, _ => ⟨0, Nat.le_refl _, fun k h => absurd h (by omega)⟩
  | N + 1, m => by
    obtain ⟨T, h1, h2⟩ := thr Q N fun k h => m k (by omega)
    rcases Nat.lt_or_ge T N with z | z
    · refine ⟨T, by omega, fun k hk => ?_⟩
      rcases Nat.lt_or_ge k N with y | y
      · exact h2 k y
      · obtain rfl : k = N := by omega
        have a := h2 (k - 1) (by omega)
        have b := m (k - 1) (by omega) (by rw [a]; simp; omega)
        rw [show k - 1 + 1 = k by omega] at b
        rw [b]; symm; simp; omega
    · obtain rfl : T = N := by omega
      rcases q : Q T with _ | _
      · refine ⟨T + 1, by omega, fun k hk => ?_⟩
        rcases Nat.lt_or_ge k T with y | y
        · rw [h2 k y]; simp; omega
        · obtain rfl : k = T := by omega
          rw [q]; symm; simp
      · refine ⟨T, by omega, fun k hk => ?_⟩
        rcases Nat.lt_or_ge k T with y | y
        · exact h2 k y
        · obtain rfl : k = T := by omega
          rw [q]; symm; simp
theorem up_mono {a b c : Int} (h : a ≤ b) (hc : 0 < c) : up a c ≤ up b c := Int.ediv_le_ediv hc (by omega)
theorem sq_mono {a b : Int} (h0 : 0 ≤ a) (h : a ≤ b) : a * a ≤ b * b := Int.mul_le_mul h h h0 (by omega)
def lenS (s : Sd) (x : Int) : Sd := ⟨x, s.core, s.over, s.wire, s.wrap⟩
def corS (s : Sd) (x : Int) : Sd := ⟨s.len, x, s.over, s.wire, s.wrap⟩
theorem lenS_ok {l : List Wi} {s : Sd} (O : SdOk l s) {x : Int} (h : 1000 ≤ x ∧ x ≤ 300000) : SdOk l (lenS s x) := ⟨O.w, h, O.core, O.over, O.wrp, O.nowrp, O.wir, O.str⟩
theorem tenH_mono {l : List Wi} {s : Sd} (O : SdOk l s) {f x y : Int} (hf : 1 ≤ f ∧ f ≤ 10000000) (h : x ≤ y) (hx : 1000 ≤ x) (hy : y ≤ 300000) : tenH l (lenS s x) f ≤ tenH l (lenS s y) f := by
  have ox := lenS_ok O (x := x) ⟨hx, by omega⟩
  obtain ⟨_, _, _, _, b1, b2, _⟩ := way_bd ox hf.1 hf.2
  have m := mOf_bd O
  have e1 : mOf l (lenS s x) = mOf l s := rfl
  have e2 : mOf l (lenS s y) = mOf l s := rfl
  have w : wayH (lenS s x) f ≤ wayH (lenS s y) f := up_mono (Int.mul_le_mul_of_nonneg_left h (by omega)) (by decide)
  have s1 := sq_mono (by omega) w
  have s2 : sqH (wayH (lenS s x) f) ≤ sqH (wayH (lenS s y) f) := up_mono s1 (by decide)
  unfold tenH
  rw [e1, e2]
  have u0 : 0 ≤ up (mOf l s) 10000 := by unfold up; omega
  exact up_mono (Int.mul_le_mul_of_nonneg_left s2 u0) (by decide)
theorem shH_mono {l : List Wi} {s : Sd} (O : SdOk l s) {x y t u : Int} (h : t ≤ u) : shH l (lenS s x) t ≤ shH l (lenS s y) u := by
  have b := strB O
  have e1 : (lenS s x).core = s.core := rfl
  have e2 : (lenS s y).core = s.core := rfl
  have e3 : (lenS s x).wire = s.wire := rfl
  have e4 : (lenS s y).wire = s.wire := rfl
  unfold shH
  rw [e1, e2, e3, e4]
  generalize (getW l s.wire).str * s.core * s.core = z at *
  exact up_mono (by omega) (by omega)
/-- A length is too great. -/
noncomputable def badL (wl : List Wi) (t : Int) (u : Un) (L : Lm) (k : Nat) : Bool := if L.hi < tenH wl (lenS u.sd (1000 + (k : Int))) (fH u t) then true else decide (L.sh < shH wl (lenS u.sd (1000 + (k : Int))) (tenH wl (lenS u.sd (1000 + (k : Int))) (fH u t)))
theorem badL_mono {wl : List Wi} {t : Int} {u : Un} {L : Lm} (O : SdOk wl u.sd) (F : 1 ≤ fH u t ∧ fH u t ≤ 10000000) (k : Nat) (hk : k + 1 < 299001) (h : badL wl t u L k = true) : badL wl t u L (k + 1) = true := by
  have m := tenH_mono O (f := fH u t) (x := 1000 + (k : Int)) (y := 1000 + ((k + 1 : Nat) : Int)) F (by omega) (by omega) (by omega)
  have m2 := shH_mono O (x := 1000 + (k : Int)) (y := 1000 + ((k + 1 : Nat) : Int)) m
  unfold badL at h ⊢
  generalize tenH wl (lenS u.sd (1000 + (k : Int))) (fH u t) = a at *
  generalize tenH wl (lenS u.sd (1000 + ((k + 1 : Nat) : Int))) (fH u t) = b at *
  split at h
  · rw [if_pos (by omega)]
  · split
    · rfl
    · have : L.sh < shH wl (lenS u.sd (1000 + (k : Int))) a := of_decide_eq_true h
      exact decide_eq_true (by omega)
theorem FOk_H {a b : Int} (F : FOk a b) : 1 ≤ b ∧ b ≤ 10000000 := by obtain ⟨h1, h2, h3⟩ := F; omega
theorem FOk_L {a b : Int} (F : FOk a b) : 1 ≤ a ∧ a ≤ 10000000 := by obtain ⟨h1, h2, h3⟩ := F; omega
theorem mOf_0 {l : List Wi} {s : Sd} (h : s.over = 0) : mOf l s = (getW l s.wire).mass * s.core * s.core := by unfold mOf; rw [if_pos h]; omega
/-- A gauge is great enough. -/
noncomputable def okG (wl : List Wi) (t : Int) (u : Un) (L : Lm) (k : Nat) : Bool := if sErr wl (corS u.sd (100 + (k : Int))) = 0 then decide (L.lo ≤ tenL wl (corS u.sd (100 + (k : Int))) (fL u t)) else false
theorem corS_ok {l : List Wi} {s : Sd} (O : SdOk l s) (ho : s.over = 0) {x : Int} (h : 100 ≤ x ∧ x ≤ 3000) : sErr l (corS s x) = 0 ↔ 1000000 ≤ (getW l s.wire).str * x * x := by
  have c := O.len
  have n := O.nowrp.1 ho
  unfold sErr
  have e1 : (corS s x).len = s.len := rfl
  have e2 : (corS s x).core = x := rfl
  have e3 : (corS s x).over = 0 := ho
  have e4 : (corS s x).wire = s.wire := rfl
  have e5 : (corS s x).wrap = s.wrap := rfl
  rw [e1, e2, e3, e4, e5]
  rw [if_neg (by simp [within]; omega), if_neg (by simp [n]), if_neg (by simp [O.wir])]
  split
  · constructor
    · intro h; cases h
    · intro h; omega
  · constructor
    · intro _; omega
    · intro _; rfl
theorem okG_mono {wl : List Wi} {t : Int} {u : Un} {L : Lm} (O : SdOk wl u.sd) (ho : u.sd.over = 0) (F : 1 ≤ fL u t ∧ fL u t ≤ 10000000) (k : Nat) (hk : k + 1 < 2901) (h : okG wl t u L k = true) : okG wl t u L (k + 1) = true := by
  obtain ⟨m1, m2, g1, g2, _⟩ := getW_ok O.w O.wir
  have sq := sq_mono (a := 100 + (k : Int)) (b := 100 + ((k + 1 : Nat) : Int)) (by omega) (by omega)
  unfold okG at h ⊢
  split at h
  · rename_i q
    have q' := (corS_ok O ho (by omega)).1 q
    have A : ∀ x : Int, (getW wl u.sd.wire).str * x * x = (getW wl u.sd.wire).str * (x * x) := fun x => Int.mul_assoc _ _ _
    have B : ∀ x : Int, (getW wl u.sd.wire).mass * x * x = (getW wl u.sd.wire).mass * (x * x) := fun x => Int.mul_assoc _ _ _
    have s1 := Int.mul_le_mul_of_nonneg_left sq (show 0 ≤ (getW wl u.sd.wire).str by omega)
    have s2 := Int.mul_le_mul_of_nonneg_left sq (show 0 ≤ (getW wl u.sd.wire).mass by omega)
    rw [← A, ← A] at s1
    rw [← B, ← B] at s2
    rw [if_pos ((corS_ok O ho (by omega)).2 (by omega))]
    have e1 := mOf_0 (l := wl) (s := corS u.sd (100 + (k : Int))) ho
    have e2 := mOf_0 (l := wl) (s := corS u.sd (100 + ((k + 1 : Nat) : Int))) ho
    have w : wayL (corS u.sd (100 + (k : Int))) (fL u t) = wayL u.sd (fL u t) := rfl
    have w2 : wayL (corS u.sd (100 + ((k + 1 : Nat) : Int))) (fL u t) = wayL u.sd (fL u t) := rfl
    obtain ⟨_, _, a1, a2, _, _, _⟩ := way_bd O F.1 F.2
    obtain ⟨_, _, c1, c2⟩ := sqL_bd a1 a2
    have md : mOf wl (corS u.sd (100 + (k : Int))) / 10000 ≤ mOf wl (corS u.sd (100 + ((k + 1 : Nat) : Int))) / 10000 := by
      rw [e1, e2]
      exact Int.ediv_le_ediv (by decide) s2
    have ml := Int.mul_le_mul_of_nonneg_right md c1
    have tl : tenL wl (corS u.sd (100 + (k : Int))) (fL u t) ≤ tenL wl (corS u.sd (100 + ((k + 1 : Nat) : Int))) (fL u t) := by
      unfold tenL
      rw [w, w2]
      exact Int.ediv_le_ediv (by decide) ml
    have : L.lo ≤ tenL wl (corS u.sd (100 + (k : Int))) (fL u t) := of_decide_eq_true h
    exact decide_eq_true (by omega)
  · cases h
end X
end Go.Abs
/- Chapter 2: the greatest length, the least gauge: the program. -/
namespace Go.Abs
namespace X
set_option maxRecDepth 100000
set_option maxHeartbeats 0
theorem wrapU2 {n : Int} (h0 : 0 ≤ n) (h : n < 18446744073709551616) : IntKind.wrap .u64 n = n := by
  have e : IntKind.wrap .u64 n = n % 18446744073709551616 := by simp [IntKind.wrap, IntKind.bits, IntKind.signed]
  rw [e]; exact Int.emod_eq_of_lt h0 h
theorem bin_shr1 (a : Int) : E.bin .shr (.int .u64 a) (.int .u64 1) = some (.int .u64 (a / 2)) := by
  show semPure (binOp .shr 0 (.int .u64 a) (.int .u64 1)) = _
  rw [show binOp .shr 0 (.int .u64 a) (.int .u64 1) = Op.shift .shr .u64 a .u64 1 by simp [binOp]]
  simp [Op.shift, semPure]
  have e : a.fdiv (2 ^ min 1 IntKind.u64.bits) = a / 2 := by
    rw [show ((2 : Int) ^ min 1 IntKind.u64.bits) = 2 from rfl]
    exact Int.fdiv_eq_ediv_of_nonneg a (by decide)
  rw [e]; rfl
abbrev vSd (s : Sd) : List Value := [i64 s.len, i64 s.core, i64 s.over, .string s.wire, .string s.wrap]
/-- sort.Search with a function that writes into one block that it has caught: the number of the first that is true. -/
theorem c87 {d n0 : Nat} (H : Int → Heap) (hn : ∀ x, (H x).length = n0) (P : Nat → Bool) {N T : Nat} {o : Int} (hN : N ≤ 1000000) (hT : T ≤ N) (hP : ∀ k, k < N → P k = decide (T ≤ k)) {g b1 b2 b3 b4 : Nat}
    (l1 : b1 < n0) (l2 : b2 < n0) (l3 : b3 < n0) (l4 : b4 < n0)
    (kg : ∀ (k : Nat) (x : Int), k < N → E.call (d + 1) n0 g [i64 (k : Int), .pointer (some ⟨b1, 0, none⟩), .pointer (some ⟨b2, 0, none⟩), .pointer (some ⟨b3, 0, none⟩), .pointer (some ⟨b4, 0, none⟩)] (H x) = some (.bool (P k), H (o + (k : Int)))) (x0 : Int) (lim : Nat) :
    ∃ y, E.call (d + 2) lim 87 [i64 (N : Int), .func (.func g) #[] #[.pointer (some ⟨b1, 0, none⟩), .pointer (some ⟨b2, 0, none⟩), .pointer (some ⟨b3, 0, none⟩), .pointer (some ⟨b4, 0, none⟩)]] (H x0) = some (i64 (T : Int), H y) := by
  have tk : ∀ x, List.take n0 (H x) = H x := fun x => List.take_of_length_le (by rw [hn]; omega)
  suffices h : ∃ v h', E.call (d + 2) lim 87 [i64 (N : Int), .func (.func g) #[] #[.pointer (some ⟨b1, 0, none⟩), .pointer (some ⟨b2, 0, none⟩), .pointer (some ⟨b3, 0, none⟩), .pointer (some ⟨b4, 0, none⟩)]] (H x0) = some (v, h') ∧ (v = i64 (T : Int) ∧ ∃ y, h' = H y) by
    obtain ⟨v, h', e, rfl, y, rfl⟩ := h
    exact ⟨y, e⟩
  refine call_trunc fn87 rfl (by simp [ef87]) ?_
  rw [hn]
  simp [ef87]
  refine wpC_loop (fun q st => ∃ (i j : Nat) (x : Int), q = j - i ∧ i ≤ T ∧ T ≤ j ∧ j ≤ N ∧ st = ⟨[(1, .func (.func g) #[] #[.pointer (some ⟨b1, 0, none⟩), .pointer (some ⟨b2, 0, none⟩), .pointer (some ⟨b3, 0, none⟩), .pointer (some ⟨b4, 0, none⟩)]), (5, i64 (i : Int)), (6, i64 (j : Int))], H x⟩) N (by show N < 2 ^ 64; omega) ?_ ?_
  · simp [St.tidy, l1, l2, l3, l4, tk]
    exact ⟨0, N, by omega, by omega, by omega, by omega, ⟨rfl, rfl⟩, x0, rfl⟩
  · rintro q hq _ ⟨i, j, x, rfl, hi, hj, hjl, rfl⟩
    by_cases hlt : i < j
    · have hm : (i + j) / 2 < N := by omega
      have wa : IntKind.wrap .i64 ((i : Int) + j) = ((i + j : Nat) : Int) := by rw [wrap_eq (by omega) (by omega)]; omega
      have wu : IntKind.wrap .u64 ((i + j : Nat) : Int) = ((i + j : Nat) : Int) := wrapU2 (by omega) (by omega)
      have wh : IntKind.wrap .i64 (((i + j : Nat) : Int) / 2) = (((i + j) / 2 : Nat) : Int) := by rw [wrap_eq (by omega) (by omega)]; omega
      have km := kg _ x hm
      have im := hP _ hm
      have mi : i ≤ (i + j) / 2 ∧ (i + j) / 2 < j := by omega
      generalize (i + j) / 2 = M at *
      generalize i + j = S at *
      have w1' := w1 (i := M) (by omega)
      simp only [W] at w1'
      by_cases q : T ≤ M
      · rw [im] at km
        simp [hlt, wa, wu, bin_shr1, wh, km, hn, q, St.tidy, l1, l2, l3, l4, tk]
        exact ⟨M - i, by omega, i, M, by omega, by omega, by omega, by omega, ⟨rfl, rfl⟩, _, rfl⟩
      · rw [im] at km
        simp [hlt, wa, wu, bin_shr1, wh, km, hn, q, w1', St.tidy, l1, l2, l3, l4, tk]
        exact ⟨j - (M + 1), by omega, M + 1, j, by omega, by omega, by omega, by omega, ⟨by omega, rfl⟩, _, rfl⟩
    · obtain rfl : i = T := by omega
      simp [hlt, tk]
      exact ⟨x, rfl⟩
end X
end Go.Abs
/- Chapter 2: the greatest length, the least gauge: the functions that are sought with. -/
namespace Go.Abs
namespace X
set_option maxRecDepth 100000
set_option maxHeartbeats 0
abbrev qD (s : Sd) : Option Blk := some ⟨vSd s, true⟩
theorem take4 {h : Heap} {a b c e : Option Blk} {r : List (Option Blk)} : List.take (h.length + 4) (h.freeze ++ a :: b :: c :: e :: r) = h.freeze ++ [a, b, c, e] := by
  rw [List.take_append]
  have : (h.freeze).length = h.length := by simp
  rw [this, List.take_of_length_le (by rw [this]; omega), show h.length + 4 - h.length = 4 by omega]
  rfl
theorem c88 {d lim : Nat} {h : Heap} {v w : Value} {wl : List Wi} {t : Int} {u : Un} {L : Lm} (s : SlW h v wl) (O : SdOk wl u.sd) (F : FOk (fL u t) (fH u t)) {k : Nat} (hk : k < 299001) (x : Int) :
    E.call (d + 6) lim 88 [i64 (k : Int), .pointer (some ⟨h.length + 2, 0, none⟩), .pointer (some ⟨h.length, 0, none⟩), .pointer (some ⟨h.length + 3, 0, none⟩), .pointer (some ⟨h.length + 1, 0, none⟩)] (h.freeze ++ [qB t v w, qL L, qD (lenS u.sd x), qV (fL u t) (fH u t)])
      = some (.bool (badL wl t u L k), h.freeze ++ [qB t v w, qL L, qD (lenS u.sd (1000 + (k : Int))), qV (fL u t) (fH u t)]) := by
  suffices hh : ∃ r h', E.call (d + 6) lim 88 [i64 (k : Int), .pointer (some ⟨h.length + 2, 0, none⟩), .pointer (some ⟨h.length, 0, none⟩), .pointer (some ⟨h.length + 3, 0, none⟩), .pointer (some ⟨h.length + 1, 0, none⟩)] (h.freeze ++ [qB t v w, qL L, qD (lenS u.sd x), qV (fL u t) (fH u t)]) = some (r, h') ∧ (r = .bool (badL wl t u L k) ∧ h' = h.freeze ++ [qB t v w, qL L, qD (lenS u.sd (1000 + (k : Int))), qV (fL u t) (fH u t)]) by
    obtain ⟨_, _, e, rfl, rfl⟩ := hh
    exact e
  have O' := lenS_ok O (x := 1000 + (k : Int)) ⟨by omega, by omega⟩
  have k89 := fun lim A => c89 (d := d) (lim := lim) ((Sl_freeze.2 s).app A) O' F
  have k90 := fun lim hh => c90 (d := d + 2) (lim := lim) (h := hh) O' F
  have wk : IntKind.wrap .i64 (1000 + (k : Int)) = 1000 + (k : Int) := wrap_eq (by omega) (by omega)
  unfold badL
  simp only [sdV, lenS, soV] at k89 k90
  have ln : (h.freeze ++ [qB t v w, qL L, qD (lenS u.sd x), qV (fL u t) (fH u t)]).length = h.length + 4 := by simp
  refine call_trunc fn88 rfl (by simp [ef88]) ?_
  rw [ln]
  simp only [lenS] at *
  by_cases q1 : L.hi < tenH wl { len := 1000 + (k : Int), core := u.sd.core, over := u.sd.over, wire := u.sd.wire, wrap := u.sd.wrap } (fH u t)
  · simp [ef88, wk, k89, k90, q1, take4, noAddr, plainV]
  · by_cases q2 : L.sh < shH wl { len := 1000 + (k : Int), core := u.sd.core, over := u.sd.over, wire := u.sd.wire, wrap := u.sd.wrap } (tenH wl { len := 1000 + (k : Int), core := u.sd.core, over := u.sd.over, wire := u.sd.wire, wrap := u.sd.wrap } (fH u t))
    · simp [ef88, wk, k89, k90, q1, q2, Int.not_lt.1 q1, take4, noAddr, plainV]
    · simp [ef88, wk, k89, k90, q1, q2, Int.not_lt.1 q1, Int.not_lt.1 q2, take4, noAddr, plainV]
theorem c91 {d lim : Nat} {h : Heap} {v w : Value} {wl : List Wi} {t : Int} {u : Un} {L : Lm} (s : SlW h v wl) (hw : chkW wl = 0) (hnm : Nms wl) (F : FOk (fL u t) (fH u t)) {k : Nat} (hk : k < 2901) (x : Int) :
    E.call (d + 6) lim 91 [i64 (k : Int), .pointer (some ⟨h.length + 2, 0, none⟩), .pointer (some ⟨h.length, 0, none⟩), .pointer (some ⟨h.length + 3, 0, none⟩), .pointer (some ⟨h.length + 1, 0, none⟩)] (h.freeze ++ [qB t v w, qL L, qD (corS u.sd x), qV (fL u t) (fH u t)])
      = some (.bool (okG wl t u L k), h.freeze ++ [qB t v w, qL L, qD (corS u.sd (100 + (k : Int))), qV (fL u t) (fH u t)]) := by
  suffices hh : ∃ r h', E.call (d + 6) lim 91 [i64 (k : Int), .pointer (some ⟨h.length + 2, 0, none⟩), .pointer (some ⟨h.length, 0, none⟩), .pointer (some ⟨h.length + 3, 0, none⟩), .pointer (some ⟨h.length + 1, 0, none⟩)] (h.freeze ++ [qB t v w, qL L, qD (corS u.sd x), qV (fL u t) (fH u t)]) = some (r, h') ∧ (r = .bool (okG wl t u L k) ∧ h' = h.freeze ++ [qB t v w, qL L, qD (corS u.sd (100 + (k : Int))), qV (fL u t) (fH u t)]) by
    obtain ⟨_, _, e, rfl, rfl⟩ := hh
    exact e
  have few := chkW_few hw
  have k92 := fun lim A s' => c92 (d := d + 1) (lim := lim) (s := s') ((Sl_freeze.2 s).app A) (by omega) hnm
  have k92u := fun lim A => k92 lim A (corS u.sd (100 + (k : Int)))
  have wk : IntKind.wrap .i64 (100 + (k : Int)) = 100 + (k : Int) := wrap_eq (by omega) (by omega)
  unfold okG
  simp only [sdV, corS, chkD, if_pos hw] at k92u
  have ln : (h.freeze ++ [qB t v w, qL L, qD (corS u.sd x), qV (fL u t) (fH u t)]).length = h.length + 4 := by simp
  by_cases q1 : sErr wl (corS u.sd (100 + (k : Int))) = 0
  · have O' : SdOk wl (corS u.sd (100 + (k : Int))) := SdOk.of (by unfold chkD; rw [if_pos hw, q1])
    have k89 := fun lim A => c89 (d := d) (lim := lim) (Sl_freeze.2 ((Sl_freeze.2 s).app A)) O' F
    simp only [sdV, corS, soV] at k89
    rw [if_pos q1]
    refine call_trunc fn91 rfl (by simp [ef91]) ?_
    rw [ln]
    simp only [corS] at *
    by_cases q2 : L.lo ≤ tenL wl { len := u.sd.len, core := 100 + (k : Int), over := u.sd.over, wire := u.sd.wire, wrap := u.sd.wrap } (fL u t)
    · simp [ef91, wk, k89, k92u, q1, q2, take4, noAddr, plainV]
    · simp [ef91, wk, k89, k92u, q1, q2, Int.not_le.1 q2, take4, noAddr, plainV]
  · rw [if_neg q1]
    refine call_trunc fn91 rfl (by simp [ef91]) ?_
    rw [ln]
    simp only [corS] at *
    simp [ef91, wk, k92u, q1, take4, noAddr, plainV]
end X
end Go.Abs
/- Chapter 2: the greatest length, the least gauge: the program's functions. -/
namespace Go.Abs
namespace X
set_option maxRecDepth 100000
set_option maxHeartbeats 0
noncomputable def forE (wl : List Wi) (t : Int) (l : List Un) (j : Int) (L : Lm) : Int := if atE wl t l j ≠ 0 then atE wl t l j else lmE L
theorem c86 {d lim : Nat} {h : Heap} {v w : Value} {wl : List Wi} {l : List Un} {t j : Int} {L : Lm} (sp : Pr h) (s : SlW h v wl) (q : SlN h w l) (hwl : wl.length ≤ 1000) (hnm : Nms wl) :
    E.call (d + 10) lim 86 [stV t v w, i64 j, lmV L] h = some (i64 (forE wl t l j L), h) := by
  have k73 := fun lim L => c73 (d := d) (lim := lim) (t := t) (j := j) ((Sl_freeze.2 sp).app L) ((Sl_freeze.2 s).app L) ((Sl_freeze.2 q).app L) hwl hnm
  have k37 := fun lim hh => c37 (d := d + 7) (lim := lim) (h := hh) (L := L)
  refine call1 fn86 rfl (by simp [ef86]) ?_
  unfold forE
  by_cases he : atE wl t l j ≠ 0
  · simp [ef86, k73, he]
  · have he' : atE wl t l j = 0 := by omega
    simp [ef86, k73, k37, he']
theorem forE_ok {wl : List Wi} {t : Int} {l : List Un} {j : Int} {L : Lm} (h : forE wl t l j L = 0) : StOk t wl l ∧ ∃ i : Nat, j = (i : Int) ∧ i < l.length := by
  unfold forE at h
  split at h
  · rename_i q; exact absurd h q
  · rename_i q
    obtain ⟨h1, h2, h3⟩ := atE_lt (by simpa using q)
    exact ⟨StOk.of h1, j.toNat, by omega, h3⟩
open Classical in
noncomputable def tL (wl : List Wi) (t : Int) (l : List Un) (L : Lm) (i : Nat) : Nat := if h : ∃ T, T ≤ 299001 ∧ ∀ k, k < 299001 → badL wl t (atN l i) L k = decide (T ≤ k) then Classical.choose h else 0
theorem tL_ok {wl : List Wi} {t : Int} {l : List Un} {L : Lm} {i : Nat} (O : StOk t wl l) (hi : i < l.length) : tL wl t l L i ≤ 299001 ∧ ∀ k, k < 299001 → badL wl t (atN l i) L k = decide (tL wl t l L i ≤ k) := by
  have F := (O.u i hi).f
  have h := thr (badL wl t (atN l i) L) 299001 fun k hk => badL_mono (O.u i hi).sd (FOk_H F) k hk
  unfold tL
  rw [dif_pos h]
  exact Classical.choose_spec h
open Classical in
noncomputable def tG (wl : List Wi) (t : Int) (l : List Un) (L : Lm) (i : Nat) : Nat := if h : ∃ T, T ≤ 2901 ∧ ∀ k, k < 2901 → okG wl t (atN l i) L k = decide (T ≤ k) then Classical.choose h else 0
theorem tG_ok {wl : List Wi} {t : Int} {l : List Un} {L : Lm} {i : Nat} (O : StOk t wl l) (hi : i < l.length) (ho : (atN l i).sd.over = 0) : tG wl t l L i ≤ 2901 ∧ ∀ k, k < 2901 → okG wl t (atN l i) L k = decide (tG wl t l L i ≤ k) := by
  have F := (O.u i hi).f
  have h := thr (okG wl t (atN l i) L) 2901 fun k hk => okG_mono (O.u i hi).sd ho (FOk_L F) k hk
  unfold tG
  rw [dif_pos h]
  exact Classical.choose_spec h
theorem c39 {d lim : Nat} {h : Heap} {v w : Value} {wl : List Wi} {l : List Un} {t j : Int} {L : Lm} (sp : Pr h) (s : SlW h v wl) (q : SlN h w l) (hwl : wl.length ≤ 1000) (hnm : Nms wl) :
    E.call (d + 11) lim 39 [stV t v w, i64 j, lmV L] h = some (if forE wl t l j L ≠ 0 then .tuple #[i64 0, i64 (forE wl t l j L)] else if tL wl t l L j.toNat = 0 then .tuple #[i64 0, i64 12] else .tuple #[i64 (999 + (tL wl t l L j.toNat : Int)), i64 0], h) := by
  have rs := s.rules2
  have r := q.rules2
  have so := s.own
  have qo := q.own
  have k86 := fun lim A => c86 (d := d) (lim := lim) (t := t) (j := j) (L := L) ((Sl_freeze.2 sp).app A) ((Sl_freeze.2 s).app A) ((Sl_freeze.2 q).app A) hwl hnm
  refine call1 fn39 rfl (by simp [ef39]) ?_
  by_cases he : forE wl t l j L ≠ 0
  · simp [ef39, k86, he]
  have he' : forE wl t l j L = 0 := by omega
  obtain ⟨O, i, rfl, hi⟩ := forE_ok he'
  have l90 := O.few
  rw [if_neg he, Int.toNat_natCast]
  obtain ⟨T1, T2⟩ := tL_ok (L := L) O hi
  generalize tL wl t l L i = T at *
  have U := O.u i hi
  have p5 := cN_s5 hi
  have k5 : i * 10 + 5 + 5 ≤ l.length * 10 := by omega
  have hii : (i : Int) < l.length := by omega
  have k74 := fun lim A => c74 (d := d + 4) (lim := lim) (v := v) (Sl_freeze.2 ((Sl_freeze.2 sp).app A)) (Sl_freeze.2 ((Sl_freeze.2 q).app A)) O hi
  have kg := fun (k : Nat) (x : Int) (hk : k < 299001) => c88 (d := d + 3) (lim := h.length + 4) (h := h) (v := v) (w := w) (L := L) s U.sd U.f hk x
  generalize hu : atN l i = u at *
  have ln : ∀ x, (h.freeze ++ [qB t v w, qL L, qD (lenS u.sd x), qV (fL u t) (fH u t)]).length = h.length + 4 := fun x => by simp
  have k87 := fun lim => c87 (d := d + 8) (n0 := h.length + 4) (fun x => h.freeze ++ [qB t v w, qL L, qD (lenS u.sd x), qV (fL u t) (fH u t)]) ln (badL wl t u L) (N := 299001) (T := T) (o := 1000) (by decide) T1 T2 (g := 88) (b1 := h.length + 2) (b2 := h.length) (b3 := h.length + 3) (b4 := h.length + 1) (by omega) (by omega) (by omega) (by omega) kg u.sd.len lim
  obtain ⟨y, k87⟩ := k87 h.length
  simp only [lenS, Int.cast_ofNat_Int] at k87
  have wT : IntKind.wrap .i64 (1000 + (T : Int)) = 1000 + (T : Int) := wrap_eq (by omega) (by omega)
  have wT2 : IntKind.wrap .i64 (1000 + (T : Int) - 1) = 999 + (T : Int) := by rw [wrap_eq (by omega) (by omega)]; omega
  by_cases z : T = 0
  · subst z
    have w0 : IntKind.wrap .i64 1000 = 1000 := rfl
    simp [ef39, k86, he', r, rs, hii, k5, p5, k74, k87, w0, noAddr, plainV, Nat.add_assoc]
  · have z' : ¬ (1000 + (T : Int) = 1000) := by omega
    rw [if_neg z]
    simp [ef39, k86, he', r, rs, hii, k5, p5, k74, k87, wT, wT2, z, z', noAddr, plainV, Nat.add_assoc]
theorem c40 {d lim : Nat} {h : Heap} {v w : Value} {wl : List Wi} {l : List Un} {t j : Int} {L : Lm} (sp : Pr h) (s : SlW h v wl) (q : SlN h w l) (hwl : wl.length ≤ 1000) (hnm : Nms wl) :
    E.call (d + 11) lim 40 [stV t v w, i64 j, lmV L] h = some (if forE wl t l j L ≠ 0 then .tuple #[i64 0, i64 (forE wl t l j L)] else if (atN l j.toNat).sd.over ≠ 0 then .tuple #[i64 0, i64 15] else if tG wl t l L j.toNat = 2901 then .tuple #[i64 0, i64 12] else .tuple #[i64 (100 + (tG wl t l L j.toNat : Int)), i64 0], h) := by
  have rs := s.rules2
  have r := q.rules2
  have so := s.own
  have qo := q.own
  have k86 := fun lim A => c86 (d := d) (lim := lim) (t := t) (j := j) (L := L) ((Sl_freeze.2 sp).app A) ((Sl_freeze.2 s).app A) ((Sl_freeze.2 q).app A) hwl hnm
  refine call1 fn40 rfl (by simp [ef40]) ?_
  by_cases he : forE wl t l j L ≠ 0
  · simp [ef40, k86, he]
  have he' : forE wl t l j L = 0 := by omega
  obtain ⟨O, i, rfl, hi⟩ := forE_ok he'
  have l90 := O.few
  rw [if_neg he, Int.toNat_natCast]
  have U := O.u i hi
  have p5 := cN_s5 hi
  have k5 : i * 10 + 5 + 5 ≤ l.length * 10 := by omega
  have hii : (i : Int) < l.length := by omega
  have k74 := fun lim A => c74 (d := d + 4) (lim := lim) (v := v) (Sl_freeze.2 ((Sl_freeze.2 sp).app A)) (Sl_freeze.2 ((Sl_freeze.2 q).app A)) O hi
  by_cases ho' : (atN l i).sd.over ≠ 0
  · generalize hu : atN l i = u at *
    rw [if_pos ho']
    simp [ef40, k86, he', r, rs, hii, k5, p5, k74, ho', noAddr, plainV, Nat.add_assoc]
  have ho : (atN l i).sd.over = 0 := by omega
  rw [if_neg ho']
  obtain ⟨T1, T2⟩ := tG_ok (L := L) O hi ho
  generalize tG wl t l L i = T at *
  have kg := fun (k : Nat) (x : Int) (hk : k < 2901) => c91 (d := d + 3) (lim := h.length + 4) (h := h) (v := v) (w := w) (L := L) s O.w hnm U.f hk x
  generalize hu : atN l i = u at *
  have ln : ∀ x, (h.freeze ++ [qB t v w, qL L, qD (corS u.sd x), qV (fL u t) (fH u t)]).length = h.length + 4 := fun x => by simp
  have k87 := fun lim => c87 (d := d + 8) (n0 := h.length + 4) (fun x => h.freeze ++ [qB t v w, qL L, qD (corS u.sd x), qV (fL u t) (fH u t)]) ln (okG wl t u L) (N := 2901) (T := T) (o := 100) (by decide) T1 T2 (g := 91) (b1 := h.length + 2) (b2 := h.length) (b3 := h.length + 3) (b4 := h.length + 1) (by omega) (by omega) (by omega) (by omega) kg u.sd.core lim
  obtain ⟨y, k87⟩ := k87 h.length
  simp only [corS, Int.cast_ofNat_Int, ho] at k87
  have wT : IntKind.wrap .i64 (100 + (T : Int)) = 100 + (T : Int) := wrap_eq (by omega) (by omega)
  by_cases z : T = 2901
  · have z' : (3000 : Int) < 100 + (T : Int) := by omega
    rw [if_pos z]
    simp [ef40, k86, he', r, rs, hii, k5, p5, k74, k87, ho, wT, z', Int.not_le.2 z', noAddr, plainV, Nat.add_assoc]
  · have z' : ¬ (3000 : Int) < 100 + (T : Int) := by omega
    rw [if_neg z]
    simp [ef40, k86, he', r, rs, hii, k5, p5, k74, k87, ho, wT, z', Int.not_lt.1 z', noAddr, plainV, Nat.add_assoc]
end X
end Go.Abs
/- Chapter 2: the greatest length, the least gauge: the reference. -/
namespace Go.Abs
namespace X
set_option maxRecDepth 100000
set_option maxHeartbeats 0
theorem c41 {d lim : Nat} {h : Heap} {v w : Value} {wl : List Wi} {l : List Un} {t j : Int} (s : SlW h v wl) (q : SlN h w l) (hwl : wl.length ≤ 1000) :
    E.call (d + 7) lim 41 [stV t v w, i64 j] h = some (i64 (atE wl t l j), h) := by
  have r := q.rules2
  have k26 := fun lim L => c26 (d := d) (lim := lim) (t := t) ((Sl_freeze.2 s).app L) ((Sl_freeze.2 q).app L) hwl
  have k18 := fun lim hh a b c => c18 (d := d + 5) (lim := lim) (h := hh) (a := a) (b := b) (c := c)
  refine call1 fn41 rfl (by simp [ef41]) ?_
  unfold atE
  by_cases he : (stE t wl l).2 ≠ 0
  · simp [ef41, k26, he]
  · have he' : (stE t wl l).2 = 0 := by omega
    have wn := wlen (n := l.length) (by have := (StOk.of he').few; omega)
    rcases e : within j 0 ((l.length : Int) - 1) with _ | _
    · simp [ef41, k26, he', r, wn, k18, e]
    · simp [ef41, k26, he', r, wn, k18, e]
theorem c78g {d lim : Nat} {h : Heap} {v w f : Value} {wl : List Wi} {l : List Un} {t : Int} {i : Nat} {x : Sd} (s : SlW h v wl) (g : SlR h f (mapU (frq t) l)) (O : StOk t wl l) (hi : i < l.length) (hx : SdOk wl x) :
    E.call (d + 6) lim 78 [knV t v w f, i64 (i : Int), sdV x] h = some (rgV (tenL wl x (fL (atN l i) t)) (tenH wl x (fH (atN l i) t)), h) := by
  have rs := s.rules2
  have gl : i < (mapU (frq t) l).length := by rw [mapU_len]; exact hi
  have rg := g.rules2
  have p := cR_part gl
  rw [mapU_at hi] at p
  rw [mapU_len] at rg
  have U := O.u i hi
  have k2 : i * 2 + 2 ≤ l.length * 2 := by omega
  have hii : (i : Int) < l.length := by omega
  have k144 := fun lim L => c144 (d := d) (lim := lim) ((Sl_freeze.2 s).app L) hx U.f
  simp only [frq] at p
  generalize hu : atN l i = u at *
  refine call1 fn78 rfl (by simp [ef78]) ?_
  rcases Nat.eq_zero_or_pos i with z | z
  · subst z
    have pp := fun L => ((Sl_freeze.2 g).app L).part (k := 0) (m := 2) (by rw [mapU_len]; omega) (by omega)
    simp only [Nat.zero_mul, List.drop_zero] at p
    simp only [Nat.add_zero, List.drop_zero, p] at pp
    have l0 : 0 < l.length := by omega
    simp [ef78, rg, l0, hii, k2, pp, p, k144]
  · simp [ef78, rg, hii, k2, p, k144]
theorem c42 {d lim : Nat} {h : Heap} {v w f : Value} {wl : List Wi} {l : List Un} {t : Int} {i : Nat} {L : Lm} (s : SlW h v wl) (q : SlN h w l) (g : SlR h f (mapU (frq t) l)) (O : StOk t wl l) (hi : i < l.length) :
    E.call (d + 7) lim 42 [knV t v w f, i64 (i : Int), lmV L] h = some (i64 (if tL wl t l L i = 0 then 0 else 999 + (tL wl t l L i : Int)), h) := by
  have rs := s.rules2
  have r := q.rules2
  have so := s.own
  have qo := q.own
  have go := g.own
  have l90 := O.few
  have gl : i < (mapU (frq t) l).length := by rw [mapU_len]; exact hi
  have rg := g.rules2
  have p := cR_part gl
  rw [mapU_at hi] at p
  rw [mapU_len] at rg
  have U := O.u i hi
  have k2 : i * 2 + 2 ≤ l.length * 2 := by omega
  have hii : (i : Int) < l.length := by omega
  obtain ⟨T1, T2⟩ := tL_ok (L := L) O hi
  generalize tL wl t l L i = T at *
  have p5 := cN_s5 hi
  have k5 : i * 10 + 5 + 5 ≤ l.length * 10 := by omega
  have q5 := fun (z : i = 0) A => ((Sl_freeze.2 q).app A).part (k := 5) (m := 5) (by omega) (by omega)
  have g2 := fun (z : i = 0) A => ((Sl_freeze.2 g).app A).part (k := 0) (m := 2) (by rw [mapU_len]; omega) (by omega)
  have k78 := fun lim A x hx => c78g (d := d) (lim := lim) (w := w) (x := x) (Sl_freeze.2 ((Sl_freeze.2 s).app A)) (Sl_freeze.2 ((Sl_freeze.2 g).app A)) O hi hx
  have k93 := fun lim A x (hx : SdOk wl x) => c93 (d := d) (lim := lim) (s := x) (Sl_freeze.2 ((Sl_freeze.2 s).app A)) hx U.f
  simp only [frq] at p
  have Usd := U.sd
  generalize hu : atN l i = u at *
  refine call1 fn42 rfl (by simp [ef42]) ?_
  simp [ef42, r, rs, rg, hii, k5, p5]
  refine wpC_loop (fun y st => ∃ (A B : Nat) (x : Int), y = B - A ∧ 999 ≤ A ∧ A ≤ 999 + T ∧ 999 + T ≤ B ∧ B ≤ 300000 ∧ st = ⟨[(1, i64 (i : Int)), (3, .pointer (some ⟨h.length, 0, none⟩)), (5, .pointer (some ⟨h.length + 1, 0, none⟩)), (7, .pointer (some ⟨h.length + 2, 0, none⟩)), (8, i64 (A : Int)), (9, i64 (B : Int))],
    h.freeze ++ [qK t v w f, qL L, qD (lenS u.sd x)]⟩) 299001 (by show 299001 < 2 ^ 64; omega) ?_ ?_
  · simp [-collect_own1, St.tidy, collect_box, so, qo, go, rs, r, rg]
    exact ⟨999, 300000, by omega, by omega, by omega, by omega, by omega, ⟨rfl, rfl⟩, u.sd.len, rfl, rfl, rfl, rfl, rfl⟩
  · rintro y hy _ ⟨A, B, x, rfl, hA0, hA, hB, hBl, rfl⟩
    by_cases hlt : A < B
    · have hm : A + 1 ≤ (A + B + 1) / 2 ∧ (A + B + 1) / 2 ≤ B := by omega
      have wa : IntKind.wrap .i64 ((A : Int) + B) = ((A + B : Nat) : Int) := by rw [wrap_eq (by omega) (by omega)]; omega
      have wb : IntKind.wrap .i64 (((A + B : Nat) : Int) + 1) = ((A + B + 1 : Nat) : Int) := by rw [wrap_eq (by omega) (by omega)]; omega
      have wq : IntKind.wrap .i64 (qdiv ((A + B + 1 : Nat) : Int) 2) = (((A + B + 1) / 2 : Nat) : Int) := by
        have : qdiv ((A + B + 1 : Nat) : Int) 2 = ((A + B + 1 : Nat) : Int) / 2 := by unfold qdiv; rw [Int.tdiv_eq_ediv_of_nonneg (by omega)]
        rw [this, wrap_eq (by omega) (by omega)]; omega
      generalize (A + B + 1) / 2 = M at *
      generalize A + B + 1 = S1 at *
      generalize A + B = S at *
      have wm : IntKind.wrap .i64 ((M : Int) - 1) = ((M - 1 : Nat) : Int) := by rw [wrap_eq (by omega) (by omega)]; omega
      have im := T2 (M - 1000) (by omega)
      unfold badL at im
      rw [show (1000 : Int) + ((M - 1000 : Nat) : Int) = (M : Int) by omega] at im
      have ox := lenS_ok Usd (x := (M : Int)) ⟨by omega, by omega⟩
      have kx := fun lim A => k78 lim A _ ox
      have ky := fun lim A => k93 lim A _ ox
      simp only [sdV, lenS] at kx ky im
      have hltI : (A : Int) < (B : Int) := by omega
      have ex : ∀ z : Int, qD (lenS u.sd z) = some ⟨[i64 z, i64 u.sd.core, i64 u.sd.over, .string u.sd.wire, .string u.sd.wrap], true⟩ := fun z => rfl
      by_cases q1 : L.hi < tenH wl { len := (M : Int), core := u.sd.core, over := u.sd.over, wire := u.sd.wire, wrap := u.sd.wrap } (fH u t)
      · have im' : T ≤ M - 1000 := by simpa [q1] using im.symm
        simp [-collect_own1, ex, lenS, hlt, hltI, wa, wb, wq, wm, kx, ky, q1, Int.not_le.2 q1, St.tidy, collect_box, so, qo, go, rs, r, rg, noAddr, plainV]
        exact ⟨M - 1 - A, by omega, A, M - 1, by omega, by omega, by omega, by omega, by omega, rfl, rfl⟩
      · by_cases q2 : L.sh < shH wl { len := (M : Int), core := u.sd.core, over := u.sd.over, wire := u.sd.wire, wrap := u.sd.wrap } (tenH wl { len := (M : Int), core := u.sd.core, over := u.sd.over, wire := u.sd.wire, wrap := u.sd.wrap } (fH u t))
        · have im' : T ≤ M - 1000 := by simpa [q1, q2] using im.symm
          rcases Nat.eq_zero_or_pos i with z | z
          · subst z
            have g2 := g2 rfl
            simp only [Int.ofNat_zero] at kx
            simp only [Nat.zero_mul, List.drop_zero] at p
            simp only [Nat.add_zero, List.drop_zero, p] at g2
            have l0 : 0 < l.length := by omega
            simp [-collect_own1, ex, lenS, l0, g2, hlt, hltI, wa, wb, wq, wm, kx, ky, q1, Int.not_lt.1 q1, q2, Int.not_le.2 q2, St.tidy, collect_box, so, qo, go, rs, r, rg, noAddr, plainV]
            exact ⟨M - 1 - A, by omega, A, M - 1, by omega, by omega, by omega, by omega, by omega, rfl, rfl⟩
          · simp [-collect_own1, ex, lenS, hii, k2, p, hlt, hltI, wa, wb, wq, wm, kx, ky, q1, Int.not_lt.1 q1, q2, Int.not_le.2 q2, St.tidy, collect_box, so, qo, go, rs, r, rg, noAddr, plainV]
            exact ⟨M - 1 - A, by omega, A, M - 1, by omega, by omega, by omega, by omega, by omega, rfl, rfl⟩
        · have im' : ¬ T ≤ M - 1000 := by simpa [q1, q2] using im.symm
          rcases Nat.eq_zero_or_pos i with z | z
          · subst z
            have g2 := g2 rfl
            simp only [Int.ofNat_zero] at kx
            simp only [Nat.zero_mul, List.drop_zero] at p
            simp only [Nat.add_zero, List.drop_zero, p] at g2
            have l0 : 0 < l.length := by omega
            simp [-collect_own1, ex, lenS, l0, g2, hlt, hltI, wa, wb, wq, wm, kx, ky, q1, Int.not_lt.1 q1, q2, Int.not_lt.1 q2, St.tidy, collect_box, so, qo, go, rs, r, rg, noAddr, plainV]
            exact ⟨B - M, by omega, M, B, by omega, by omega, by omega, by omega, by omega, rfl, rfl⟩
          · simp [-collect_own1, ex, lenS, hii, k2, p, hlt, hltI, wa, wb, wq, wm, kx, ky, q1, Int.not_lt.1 q1, q2, Int.not_lt.1 q2, St.tidy, collect_box, so, qo, go, rs, r, rg, noAddr, plainV]
            exact ⟨B - M, by omega, M, B, by omega, by omega, by omega, by omega, by omega, rfl, rfl⟩
    · obtain rfl : A = 999 + T := by omega
      obtain rfl : B = 999 + T := by omega
      by_cases z : T = 0
      · subst z
        simp
      · have z' : ¬ ((999 + T : Nat) : Int) < 1000 := by omega
        have z2 : ((999 + T : Nat) : Int) = 999 + (T : Int) := by omega
        simp [z', z2, z]
        omega
theorem c43 {d lim : Nat} {h : Heap} {v w f : Value} {wl : List Wi} {l : List Un} {t : Int} {i : Nat} {L : Lm} (s : SlW h v wl) (q : SlN h w l) (g : SlR h f (mapU (frq t) l)) (O : StOk t wl l) (hi : i < l.length) (ho : (atN l i).sd.over = 0) :
    E.call (d + 7) lim 43 [knV t v w f, i64 (i : Int), lmV L] h = some (i64 (if tG wl t l L i = 2901 then 0 else 100 + (tG wl t l L i : Int)), h) := by
  have rs := s.rules2
  have r := q.rules2
  have so := s.own
  have qo := q.own
  have go := g.own
  have rg := g.rules2
  have l90 := O.few
  have U := O.u i hi
  have hii : (i : Int) < l.length := by omega
  obtain ⟨T1, T2⟩ := tG_ok (L := L) O hi ho
  generalize tG wl t l L i = T at *
  have p5 := cN_s5 hi
  have k5 : i * 10 + 5 + 5 ≤ l.length * 10 := by omega
  have k78 := fun lim A x hx => c78g (d := d) (lim := lim) (w := w) (x := x) (Sl_freeze.2 ((Sl_freeze.2 s).app A)) (Sl_freeze.2 ((Sl_freeze.2 g).app A)) O hi hx
  have k94 := fun lim A x => c94 (d := d + 4) (lim := lim) (s := x) ((Sl_freeze.2 s).app A) O.w
  have Usd := U.sd
  generalize hu : atN l i = u at *
  refine call1 fn43 rfl (by simp [ef43]) ?_
  simp [ef43, r, rs, rg, hii, k5, p5]
  refine wpC_loop (fun y st => ∃ (k : Nat), y = 2901 - k ∧ k ≤ 2901 ∧ k ≤ T ∧ st = ⟨[(1, i64 (i : Int)), (3, .pointer (some ⟨h.length, 0, none⟩)), (5, .pointer (some ⟨h.length + 1, 0, none⟩)), (7, .pointer (some ⟨h.length + 2, 0, none⟩))],
    h.freeze ++ [qK t v w f, qL L, qD (corS u.sd (100 + (k : Int)))]⟩) 2901 (by show 2901 < 2 ^ 64; omega) ?_ ?_
  · simp [-collect_own1, St.tidy, collect_box, so, qo, go, rs, r, rg]
    exact ⟨0, by omega, by omega, by omega, rfl, rfl, rfl, rfl, rfl⟩
  · rintro y hy _ ⟨k, rfl, hk, hkT, rfl⟩
    have ex : ∀ z : Int, qD (corS u.sd z) = some ⟨[i64 u.sd.len, i64 z, i64 u.sd.over, .string u.sd.wire, .string u.sd.wrap], true⟩ := fun z => rfl
    have ky := fun lim A => k94 lim A (corS u.sd (100 + (k : Int)))
    simp only [sdV, corS] at ky
    by_cases hlt : k < 2901
    · have im := T2 k hlt
      unfold okG at im
      have w1' : IntKind.wrap .i64 (100 + (k : Int) + 1) = 100 + ((k + 1 : Nat) : Int) := by rw [wrap_eq (by omega) (by omega)]; omega
      have c1 : (100 : Int) + (k : Int) ≤ 3000 := by omega
      by_cases q1 : sErr wl (corS u.sd (100 + (k : Int))) = 0
      · have O' : SdOk wl (corS u.sd (100 + (k : Int))) := SdOk.of (by unfold chkD; rw [if_pos O.w, q1])
        have kx := fun lim A => k78 lim A _ O'
        simp only [q1, if_true] at im
        simp only [sdV, corS] at kx im q1
        by_cases q2 : L.lo ≤ tenL wl { len := u.sd.len, core := 100 + (k : Int), over := u.sd.over, wire := u.sd.wire, wrap := u.sd.wrap } (fL u t)
        · have im' : T ≤ k := by simpa [q2] using im.symm
          obtain rfl : k = T := by omega
          have ne : ¬ k = 2901 := by omega
          simp [-collect_own1, ex, corS, c1, ky, kx, q1, q2, ne, r, rs, rg, noAddr, plainV]
        · have im' : ¬ T ≤ k := by simpa [q2] using im.symm
          simp [-collect_own1, ex, corS, c1, ky, kx, q1, q2, Int.not_le.1 q2, w1', St.tidy, collect_box, so, qo, go, rs, r, rg, noAddr, plainV]
          exact ⟨2901 - (k + 1), by omega, k + 1, by omega, by omega, by omega, by omega⟩
      · simp only [q1, if_false] at im
        have im' : ¬ T ≤ k := by simpa using im.symm
        simp only [corS] at q1
        simp [-collect_own1, ex, corS, c1, ky, q1, w1', St.tidy, collect_box, so, qo, go, rs, r, rg, noAddr, plainV]
        exact ⟨2901 - (k + 1), by omega, k + 1, by omega, by omega, by omega, by omega⟩
    · obtain rfl : k = 2901 := by omega
      obtain rfl : T = 2901 := by omega
      simp [ex, corS]
end X
end Go.Abs
/- The law ScaleSizes. -/
namespace Go.Abs
namespace X
set_option maxRecDepth 100000
set_option maxHeartbeats 0
theorem c7 {d lim : Nat} {h : Heap} {v w : Value} {wl : List Wi} {l : List Un} {t j : Int} {L : Lm} (sp : Pr h) (s : SlW h v wl) (q : SlN h w l) : E.call (d + 12) lim 7 [stV t v w, i64 j, lmV L] h = some (.bool true, h) := by
  have rs := s.rules2
  have r := q.rules2
  have k19 := fun lim hh => c19 (d := d + 3) (lim := lim) (h := hh)
  have k20 := fun lim A => c20 (d := d + 9) (lim := lim) (t := t) ((Sl_freeze.2 s).app A) ((Sl_freeze.2 q).app A)
  have k36 := fun lim hh => c36 (d := d + 9) (lim := lim) (h := hh) (L := L)
  have spA := fun A => (Sl_freeze.2 sp).app A
  refine call1 fn7 rfl (by simp [ef7]) ?_
  rcases fw : fewB wl l with _ | _
  · simp [ef7, k19, k20, fw]
  obtain ⟨lw, hnm, l6⟩ := few_ok fw
  have k22 := fun lim A => c22 (d := d + 10) (lim := lim) (t := t) (Sl_freeze.2 ((Sl_freeze.2 s).app A)) (Sl_freeze.2 ((Sl_freeze.2 q).app A)) (by omega) (by omega)
  have k39 := fun lim => c39 (d := d) (lim := lim) (t := t) (j := j) (L := L) (spA [qB t v w, qL L, qW wl, qN l]) (ownW (l := wl) [qB t v w, qL L, qW wl, qN l] (k := 2) rfl) (ownN (l := l) [qB t v w, qL L, qW wl, qN l] (k := 3) rfl) (by omega) hnm
  have k40 := fun lim => c40 (d := d) (lim := lim) (t := t) (j := j) (L := L) (spA [qB t v w, qL L, qW wl, qN l, qW wl, qN l]) (ownW (l := wl) [qB t v w, qL L, qW wl, qN l, qW wl, qN l] (k := 4) rfl) (ownN (l := l) [qB t v w, qL L, qW wl, qN l, qW wl, qN l] (k := 5) rfl) (by omega) hnm
  have k41 := fun lim A => c41 (d := d + 4) (lim := lim) (t := t) (j := j) ((Sl_freeze.2 s).app A) ((Sl_freeze.2 q).app A) (by omega)
  by_cases he : forE wl t l j L ≠ 0
  · simp only [if_pos he] at k39 k40
    unfold forE at he k39 k40
    by_cases ha : atE wl t l j ≠ 0
    · simp only [if_pos ha] at k39 k40
      simp [ef7, k19, k20, fw, k22, k39, k40, k41, k36, ha, Nat.add_assoc]
    · simp only [if_neg ha] at k39 k40 he
      have ha' : atE wl t l j = 0 := by omega
      simp [ef7, k19, k20, fw, k22, k39, k40, k41, k36, ha', he, Nat.add_assoc]
  have he' : forE wl t l j L = 0 := by omega
  obtain ⟨O, i, rfl, hi⟩ := forE_ok he'
  simp only [if_neg he, Int.toNat_natCast] at k39 k40
  have ha : atE wl t l (i : Int) = 0 := by
    unfold forE at he'
    split at he'
    · rename_i z; exact absurd he' z
    · rename_i z; simpa using z
  have hl : lmE L = 0 := by
    unfold forE at he'
    rwa [if_neg (by simpa using ha)] at he'
  have he2 : (stE t wl l).2 = 0 := by
    by_cases z : (stE t wl l).2 = 0
    · exact z
    · unfold atE at ha; rw [if_pos z] at ha; exact absurd ha z
  have k27 := fun lim A => c27 (d := d + 6) (lim := lim) (((Sl_freeze.2 s).app A)) (((Sl_freeze.2 q).app A)) he2
  unfold newV newK at k27
  have fl := mapU_len (frq t) l
  have zi : l.length ≠ 0 := by omega
  have gF := fun T => ownR (h := h) (l := mapU (frq t) l) [qB t v w, qL L, qW wl, qN l, qW wl, qN l, qR (mapU (frq t) l), T] (k := 6) rfl
  have k42 := fun lim T => c42 (d := d + 4) (lim := lim) (L := L) (i := i) ((Sl_freeze.2 s).app _) ((Sl_freeze.2 q).app _) (gF T) O hi
  simp only [fl, if_neg zi] at k27 k42
  have hii : (i : Int) < l.length := by omega
  have cc : (cS encN l)[i * 10 + 7]? = some (i64 (atN l i).sd.over) := by rw [cN_j hi (by omega)]; rfl
  have k7 : i * 10 + 7 < l.length * 10 := by omega
  have cv : ∀ hh, (cS encN l)[i * 10 + 7]'hh = .int .i64 (atN l i).sd.over := fun hh => by have := List.getElem?_eq_getElem hh; rw [cc] at this; exact (Option.some.inj this).symm
  by_cases ho' : (atN l i).sd.over ≠ 0
  · simp only [if_pos ho'] at k40
    by_cases z1 : tL wl t l L i = 0
    · simp only [if_pos z1] at k39 k42
      simp [ef7, k19, k20, fw, k22, k39, k40, k41, k36, k27, k42, ha, hl, hi, hii, cc, cv, k7, ho', r, Nat.add_assoc]
      exact ⟨Sl_one s, Sl_one q⟩
    · simp only [if_neg z1] at k39 k42
      have z2 : ¬ (999 + (tL wl t l L i : Int) = 0) := by omega
      have z3 : (0 : Int) < 999 + (tL wl t l L i : Int) := by omega
      simp [ef7, k19, k20, fw, k22, k39, k40, k41, k36, k27, k42, ha, hl, hi, hii, cc, cv, k7, ho', z2, z3, r, Nat.add_assoc]
      exact ⟨Sl_one s, Sl_one q⟩
  have ho : (atN l i).sd.over = 0 := by omega
  have k43 := fun lim T => c43 (d := d + 4) (lim := lim) (L := L) (i := i) ((Sl_freeze.2 s).app _) ((Sl_freeze.2 q).app _) (gF T) O hi ho
  simp only [fl] at k43
  simp only [if_neg ho'] at k40
  by_cases z1 : tL wl t l L i = 0
  · simp only [if_pos z1] at k39 k42
    by_cases z4 : tG wl t l L i = 2901
    · simp only [if_pos z4] at k40 k43
      simp [ef7, k19, k20, fw, k22, k39, k40, k41, k36, k27, k42, k43, ha, hl, hi, hii, cc, cv, k7, ho, r, Nat.add_assoc]
      exact ⟨Sl_one s, Sl_one q⟩
    · simp only [if_neg z4] at k40 k43
      have z5 : ¬ (100 + (tG wl t l L i : Int) = 0) := by omega
      simp [ef7, k19, k20, fw, k22, k39, k40, k41, k36, k27, k42, k43, ha, hl, hi, hii, cc, cv, k7, ho, z5, r, Nat.add_assoc]
      exact ⟨Sl_one s, Sl_one q⟩
  · simp only [if_neg z1] at k39 k42
    have z2 : ¬ (999 + (tL wl t l L i : Int) = 0) := by omega
    have z3 : (0 : Int) < 999 + (tL wl t l L i : Int) := by omega
    by_cases z4 : tG wl t l L i = 2901
    · simp only [if_pos z4] at k40 k43
      simp [ef7, k19, k20, fw, k22, k39, k40, k41, k36, k27, k42, k43, ha, hl, hi, hii, cc, cv, k7, ho, z2, z3, r, Nat.add_assoc]
      exact ⟨Sl_one s, Sl_one q⟩
    · simp only [if_neg z4] at k40 k43
      have z5 : ¬ (100 + (tG wl t l L i : Int) = 0) := by omega
      simp [ef7, k19, k20, fw, k22, k39, k40, k41, k36, k27, k42, k43, ha, hl, hi, hii, cc, cv, k7, ho, z2, z3, z5, r, Nat.add_assoc]
      exact ⟨Sl_one s, Sl_one q⟩
end X
end Go.Abs
