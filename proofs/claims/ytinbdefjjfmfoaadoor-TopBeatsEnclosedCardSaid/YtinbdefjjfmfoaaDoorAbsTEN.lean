/- Frequencies. -/
import Derived.Test.YtinbdefjjfmfoaaDoorAbsTEM
set_option linter.unusedSimpArgs false
set_option linter.unusedVariables false
/- Frequencies. -/
namespace Go.Abs
namespace T
set_option maxRecDepth 100000
set_option maxHeartbeats 0
def errF (nm : ByteArray) (P S : Nat → Int) (F n : Int) : Int := if chkT nm P S ≠ 0 then chkT nm P S else if isFork F = true ∧ isNote n = true then 0 else 2
theorem c31e {d lim : Nat} {h : Heap} {C : List Value} {nm : ByteArray} {P S : Nat → Int} {F n : Int} (t : Tm C nm P S) (hs : nm.size ≤ 1000) (he : errF nm P S F n ≠ 0) :
    E.call (d + 6) lim 31 [.agg C.toArray, i64 F, i64 n] h = some (r3 (0, 0, errF nm P S F n), h) := by
  have gb : Heap.get (h.freeze ++ [some ⟨C, true⟩, some ⟨[i64 0, i64 0], true⟩, some ⟨[.bool (isFork F), .bool (isNote n)], true⟩]) (h.length + 2) = some ⟨[.bool (isFork F), .bool (isNote n)], true⟩ := by rw [hget_base (by simp)]; rfl
  have sl := SlBo2 gb
  refine call1 fn31 rfl (by simp [ef31]) ?_
  by_cases h0 : chkT nm P S = 0
  · have hq : ¬ (isFork F = true ∧ isNote n = true) := fun q => he (by simp [errF, h0, q.1, q.2])
    have e : errF nm P S F n = 2 := by unfold errF; rw [if_neg (by simp [h0]), if_neg hq]
    rw [e]
    have ha : [isFork F, isNote n].all id = false := by
      cases ha : isFork F
      · simp
      · cases hb : isNote n
        · simp
        · exact absurd ⟨ha, hb⟩ hq
    have k84 := fun lim => c84c (d := d) (lim := lim) t hs sl (by simp) h0 ha
    simp [ef31, t.len, t.take, c93, c85, k84]
  · have k84 := fun lim hh v => c84b (d := d) (lim := lim) (h := hh) (v := v) t hs h0
    have e : errF nm P S F n = chkT nm P S := by simp [errF, h0]
    rw [e]
    simp [ef31, t.len, t.take, c93, c85, k84, h0]
theorem enc_small {P S : Nat → Int} (o : Okt P S) {n t L H : Nat} (hn : n ≤ 87) (ht : t ≤ 16000000) (s : encN P S t n L H) : smallL L H = L ∧ smallH L H = H ∧ smallE L H = 0 := by
  obtain ⟨a1, a2, a3⟩ := small_eq (EncS.lt s).1
  have b := enc_note o hn ht s
  rw [if_pos b] at a1 a2 a3
  exact ⟨a1, a2, a3⟩
theorem c31 {d lim : Nat} {h : Heap} {C : List Value} {nm : ByteArray} {P S : Nat → Int} {F n L H : Nat} (sp : SlU h (.slice (some ⟨0, 0, none⟩) 3 1) [2, 3, 5]) (t : Tm C nm P S) (hs : nm.size ≤ 1000) (h0 : chkT nm P S = 0)
    (hn : n ≤ 87) (hF : 1 ≤ F ∧ F ≤ 1000000) (s : encN P S F n L H) :
    E.call (d + 7) lim 31 [.agg C.toArray, i64 F, i64 n] h = some (rge L H 0, h) := by
  obtain ⟨o, _⟩ := okt h0
  have hf : isFork F = true := by simp [isFork, within]; omega
  have hN : isNote n = true := by simp [isNote, within]; omega
  have gb : Heap.get (h.freeze ++ [some ⟨C, true⟩, some ⟨[i64 0, i64 0], true⟩, some ⟨[.bool (isFork F), .bool (isNote n)], true⟩]) (h.length + 2) = some ⟨[.bool (isFork F), .bool (isNote n)], true⟩ := by rw [hget_base (by simp)]; rfl
  have sl := SlBo2 gb
  have gk : ∀ L, Heap.get (h.freeze ++ (some ⟨C, true⟩ :: some ⟨[i64 0, i64 0], true⟩ :: some ⟨[.bool true, .bool true], true⟩ :: some ⟨circK P S, true⟩ :: L)) (h.length + 3) = some ⟨circK P S, true⟩ := fun L => by rw [hget_base (by simp)]; rfl
  have sp2 : ∀ L, SlU (h.freeze ++ L) (.slice (some ⟨0, 0, none⟩) 3 1) [2, 3, 5] := fun L => (Sl_freeze.2 sp).app L
  have k84 := fun lim => c84 (d := d + 1) (lim := lim) t hs sl (by simp) h0 (by simp [hf, hN])
  simp only [hf, hN, List.length_append, Heap.length_freeze, List.length_cons, List.length_nil, List.append_assoc, List.cons_append, List.nil_append] at k84
  obtain ⟨e1, e2, e3⟩ := enc_small o hn (by omega) s
  have k96 := fun lim L => c96 (d := d) (lim := lim) (sp2 _) (gk L) o hn ⟨hF.1, by omega⟩ s
  rw [e1, e2, e3] at k96
  refine call1 fn31 rfl (by simp [ef31]) ?_
  simp [ef31, t.len, t.take, c93, c85, hf, hN, k84, k96]
theorem c34 {d lim : Nat} {h : Heap} {C : List Value} {nm : ByteArray} {P S : Nat → Int} {F n L H : Nat} (t : Tm C nm P S) (o : Okt P S) (hn : n ≤ 87) (hF : 1 ≤ F ∧ F ≤ 1000000) (s : encN P S F n L H) :
    E.call (d + 7) lim 34 [.agg C.toArray, i64 F, i64 n] h = some (rg L H, h) := by
  have k25 := fun lim hh => c25 (d := d) (lim := lim) (h := hh) (n := n) t (by omega)
  have k26 := fun lim hh => c26 (d := d + 2) (lim := lim) (h := hh) (int_ok o (lo := 48) (hi := n) (by omega) hn).2
  have k95 := fun lim hh => c95n (d := d + 2) (lim := lim) (h := hh) o hn ⟨hF.1, by omega⟩ s
  obtain ⟨x1, x2, x3, x4, hx⟩ := pit_pt (intX P S 48 n)
  rw [hx] at k26 k95
  refine call1 fn34 rfl (by simp [ef34]) ?_
  simp [ef34, t.len, t.take, k25, k26, k95]
/-- The ranges of the first notes. -/
def scl (Lf Hf : Nat → Nat) : Nat → List Value
  | 0 => []
  | i + 1 => scl Lf Hf i ++ [i64 (Lf i), i64 (Hf i)]
theorem scl_len (Lf Hf : Nat → Nat) : ∀ i, (scl Lf Hf i).length = 2 * i
  | 0 => rfl
  | i + 1 => by simp [scl, scl_len Lf Hf i]; omega
theorem scl_plain (Lf Hf : Nat → Nat) : ∀ i, (scl Lf Hf i).all plainV = true
  | 0 => rfl
  | i + 1 => by simp [scl, scl_plain Lf Hf i, plainV]
theorem c32b {d lim : Nat} {h : Heap} {C : List Value} {nm : ByteArray} {P S : Nat → Int} {F : Int} (t : Tm C nm P S) (hs : nm.size ≤ 1000) (h0 : chkT nm P S ≠ 0) :
    E.call (d + 6) lim 32 [.agg C.toArray, i64 F] h = some (.tuple #[.slice none 0 0, i64 (chkT nm P S)], h) := by
  have k84 := fun lim hh v => c84b (d := d) (lim := lim) (h := hh) (v := v) t hs h0
  refine call1 fn32 rfl (by simp [ef32]) ?_
  simp [ef32, t.len, t.take, c93, k84, h0]
theorem c32c {d lim : Nat} {h : Heap} {C : List Value} {nm : ByteArray} {P S : Nat → Int} {F : Int} (t : Tm C nm P S) (hs : nm.size ≤ 1000) (h0 : chkT nm P S = 0) (hf : isFork F = false) :
    E.call (d + 6) lim 32 [.agg C.toArray, i64 F] h = some (.tuple #[.slice none 0 0, i64 2], h) := by
  have gb : Heap.get (h.freeze ++ [some ⟨C, true⟩, some ⟨[.bool (isFork F)], true⟩]) (h.length + 1) = some ⟨[.bool (isFork F)], true⟩ := by rw [hget_base (by simp)]; rfl
  have sl := SlBo1 gb
  have k84 := fun lim => c84c (d := d) (lim := lim) t hs sl (by simp) h0 (by simp [hf])
  simp only [hf] at k84
  refine call1 fn32 rfl (by simp [ef32]) ?_
  simp [ef32, t.len, t.take, c93, hf, k84]
end T
end Go.Abs
/- The scale of frequencies. -/
namespace Go.Abs
namespace T
set_option maxRecDepth 100000
set_option maxHeartbeats 0
theorem c32 {d lim : Nat} {h : Heap} {C : List Value} {nm : ByteArray} {P S : Nat → Int} {F : Nat} {Lf Hf : Nat → Nat} (sp : SlU h (.slice (some ⟨0, 0, none⟩) 3 1) [2, 3, 5]) (t : Tm C nm P S) (hs : nm.size ≤ 1000) (h0 : chkT nm P S = 0)
    (hF : 1 ≤ F ∧ F ≤ 1000000) (s : ∀ n, n ≤ 87 → encN P S F n (Lf n) (Hf n)) :
    E.call (d + 7) lim 32 [.agg C.toArray, i64 F] h = some (.tuple #[.slice (some ⟨h.length, 0, none⟩) 88 2, i64 0], h ++ [some ⟨scl Lf Hf 88, true⟩]) := by
  obtain ⟨o, _⟩ := okt h0
  have hf : isFork F = true := by simp [isFork, within]; omega
  have gb : Heap.get (h.freeze ++ [some ⟨C, true⟩, some ⟨[.bool (isFork F)], true⟩]) (h.length + 1) = some ⟨[.bool (isFork F)], true⟩ := by rw [hget_base (by simp)]; rfl
  have sl := SlBo1 gb
  have sp2 : ∀ L, SlU (h.freeze ++ L) (.slice (some ⟨0, 0, none⟩) 3 1) [2, 3, 5] := fun L => (Sl_freeze.2 sp).app L
  have k84 := fun lim => c84 (d := d + 1) (lim := lim) t hs sl (by simp) h0 (by simp [hf])
  simp only [hf, List.length_append, Heap.length_freeze, List.length_cons, List.length_nil, List.append_assoc, List.cons_append, List.nil_append] at k84
  have gk : ∀ L, Heap.get (h.freeze ++ (some ⟨circK P S, true⟩ :: L)) h.length = some ⟨circK P S, true⟩ := fun L => by rw [hget_base0 (by simp)]; rfl
  have k96 := fun (n : Nat) (hn : n ≤ 87) lim L => c96 (d := d) (lim := lim) (sp2 _) (gk L) o hn ⟨hF.1, by omega⟩ (s n hn)
  have kp := Cir.plain (K := circK P S) (P := P) (S := S) rfl
  refine call_pure fn32 rfl (by simp [ef32]) ?_
  simp [ef32, t.len, t.take, c93, hf, k84]
  refine wpC_loop (fun q st => ∃ i, q = 88 - i ∧ i ≤ 88 ∧ ((i = 0 ∧ st = ⟨[(1, i64 F), (6, .pointer (some ⟨h.length, 0, none⟩)), (8, .slice none 0 0), (23, i64 i)], h.freeze ++ [some ⟨circK P S, true⟩]⟩) ∨
    (0 < i ∧ st = ⟨[(1, i64 F), (6, .pointer (some ⟨h.length, 0, none⟩)), (8, .slice (some ⟨h.length + 1, 0, none⟩) i 2), (23, i64 i)], h.freeze ++ [some ⟨circK P S, true⟩, some ⟨scl Lf Hf i, true⟩]⟩))) 88 (by show 88 < 2 ^ 64; omega) ?_ ?_
  · simp [St.tidy, kp]
    exact ⟨0, by omega, by omega, rfl, rfl⟩
  · rintro q hq _ ⟨i, rfl, hi, hst⟩
    have bl := scl_len Lf Hf i
    have bp := scl_plain Lf Hf i
    have bp' := scl_plain Lf Hf (i + 1)
    rcases hst with ⟨rfl, rfl⟩ | ⟨h0i, rfl⟩
    · obtain ⟨e1, e2, e3⟩ := enc_small o (n := 0) (by omega) (by omega) (s 0 (by omega))
      have k := k96 0 (by omega)
      rw [e1, e2, e3] at k
      simp only [Int.natCast_zero] at k
      simp [k, E.append, E.added, Value.oneCell', maxLen, St.tidy, kp]
      exact ⟨87, by omega, 1, by omega, by omega, by omega, ⟨rfl, rfl⟩, rfl⟩
    · by_cases hlt : i < 88
      · obtain ⟨e1, e2, e3⟩ := enc_small o (n := i) (by omega) (by omega) (s i (by omega))
        have k := k96 i (by omega)
        rw [e1, e2, e3] at k
        have w1' := w1 (i := i) (by omega)
        simp only [W] at w1'
        have hb : scl Lf Hf i ++ [i64 (Lf i), i64 (Hf i)] = scl Lf Hf (i + 1) := rfl
        have i0 : i ≠ 0 := by omega
        have mm : i * 2 = 2 * i := by omega
        have h1 : (i : Int) < 88 := by omega
        simp [k, h1, w1', i0, mm, bl, E.append, E.added, Value.oneCell', maxLen, St.tidy, kp, hb, bp']
        exact ⟨by omega, 88 - (i + 1), by omega, i + 1, rfl, by omega, by omega, ⟨rfl, rfl⟩, rfl⟩
      · obtain rfl : i = 88 := by omega
        simp [St.tidy, bp]
end T
end Go.Abs
/- The law TemperFrequencies. -/
namespace Go.Abs
namespace T
set_option maxRecDepth 100000
set_option maxHeartbeats 0
theorem scl_get (Lf Hf : Nat → Nat) {n : Nat} : ∀ k, n < k → ((scl Lf Hf k).drop (2 * n)).take 2 = [i64 (Lf n), i64 (Hf n)]
  | 0, h => absurd h (by omega)
  | k + 1, h => by
    have l := scl_len Lf Hf k
    by_cases e : n = k
    · subst e
      unfold scl
      rw [List.drop_append_of_le_length (by omega), List.drop_of_length_le (by omega)]; rfl
    · have := scl_get Lf Hf (n := n) k (by omega)
      unfold scl
      rw [List.drop_append_of_le_length (by omega), List.take_append_of_le_length (by simp; omega)]; exact this
theorem law5 (lim : Nat) {h : Heap} (A : AwOk h) (sp : SlU h (.slice (some ⟨0, 0, none⟩) 3 1) [2, 3, 5]) {C : List Value} {nm : ByteArray} {P S : Nat → Int} {F n : Int} (t : Tm C nm P S) :
    E.call 21 lim 5 [.agg C.toArray, i64 F, i64 n] h = some (.bool true, h) := by
  have a1 := A
  unfold AwOk at a1
  have k20 := fun lim hh => c20 (d := 19) (lim := lim) (h := hh) t
  have k23 := fun lim hh => c23 (d := 15) (lim := lim) (h := hh) t
  have sp2 : ∀ L, SlU (h.freeze ++ L) (.slice (some ⟨0, 0, none⟩) 3 1) [2, 3, 5] := fun L => (Sl_freeze.2 sp).app L
  refine call1 fn5 rfl (by simp [ef5]) ?_
  by_cases hs : nm.size ≤ 30
  · by_cases h0 : chkT nm P S = 0
    · obtain ⟨o, _⟩ := okt h0
      by_cases hf : isFork F = true
      · obtain ⟨F', rfl, hF⟩ := fork_nat hf
        have ex : ∀ n, ∃ LH : Nat × Nat, encN P S F' n LH.1 LH.2 := fun n => by
          obtain ⟨L, H, s⟩ := encS (intX P S 48 n).1 (intX P S 48 n).2.1 (intX P S 48 n).2.2 12 (by decide) F'
          exact ⟨(L, H), s⟩
        obtain ⟨f, hf2⟩ := Classical.axiomOfChoice ex
        have k32 := fun lim L => c32 (d := 13) (lim := lim) (Lf := fun n => (f n).1) (Hf := fun n => (f n).2) (sp2 L) t (by omega) h0 hF (fun n _ => hf2 n)
        have sl := scl_len (fun n => (f n).1) (fun n => (f n).2) 88
        have sp' := scl_plain (fun n => (f n).1) (fun n => (f n).2) 88
        have sg := fun n => scl_get (fun n => (f n).1) (fun n => (f n).2) (n := n) 88
        generalize scl (fun n => (f n).1) (fun n => (f n).2) 88 = Z at *
        by_cases hn : isNote n = true
        · obtain ⟨m, rfl, hm⟩ := isNote_nat hn
          have k31 := fun lim L => c31 (d := 13) (lim := lim) (sp2 L) t (by omega) h0 hm hF (hf2 m)
          have k34 := fun lim hh => c34 (d := 13) (lim := lim) (h := hh) t o hm hF (hf2 m)
          have g := sg m (by omega)
          simp [ef5, a1, k20, hs, t.len, t.take, k31, k32, k34, k23, h0, c33, c24, hf, hn, sl]
          rw [Nat.mul_comm 2 m] at g
          refine ⟨by omega, by omega, ?_⟩
          rw [g]; simp
        · have k31 := fun lim hh => c31e (d := 14) (lim := lim) (h := hh) (F := F') (n := n) t (by omega) (by simp [errF, h0, hn])
          have e : errF nm P S F' n = 2 := by simp [errF, h0, hn]
          rw [e] at k31
          simp only [Bool.not_eq_true] at hn
          simp [ef5, a1, k20, hs, t.len, t.take, k31, k32, k23, h0, c33, c24, hf, hn]
      · have k31 := fun lim hh => c31e (d := 14) (lim := lim) (h := hh) (F := F) (n := n) t (by omega) (by simp [errF, h0, hf])
        have e : errF nm P S F n = 2 := by simp [errF, h0, hf]
        rw [e] at k31
        simp only [Bool.not_eq_true] at hf
        have k32 := fun lim hh => c32c (d := 14) (lim := lim) (h := hh) (F := F) t (by omega) h0 hf
        simp [ef5, a1, k20, hs, t.len, t.take, k31, k32, k23, h0, c33, hf]
    · have k31 := fun lim hh => c31e (d := 14) (lim := lim) (h := hh) (F := F) (n := n) t (by omega) (by simp [errF, h0])
      have e : errF nm P S F n = chkT nm P S := by simp [errF, h0]
      rw [e] at k31
      have k32 := fun lim hh => c32b (d := 14) (lim := lim) (h := hh) (F := F) t (by omega) h0
      simp [ef5, a1, k20, hs, t.len, t.take, k31, k32, k23, h0]
  · simp [ef5, a1, k20, hs, t.len, t.take]
theorem temperFrequencies_law : ∀ (bs : List (Option Blk)) us, Heap.freeze ([primesB] ++ bs) = [primesB] ++ bs → (∀ n, ctBlocks (([ctT, (false, [ctI]), (false, [ctI])] : List (Bool × List CT)).flatMap (·.2)) = some n → bs.length = n) →
    ArgsV 6 ([primesB] ++ bs) [ctT, (false, [ctI]), (false, [ctI])] us → ∃ h', E.call 21 (([primesB] : Heap) ++ bs).length 5 us ([primesB] ++ bs) = some (.bool true, h') := by
  intro bs us _ k a
  obtain ⟨u, v, w, rfl, a1, a2, a3⟩ := args3 a
  obtain ⟨C, nm, P, S, rfl, t, _⟩ := arg_tm a1
  obtain ⟨_, rfl, _⟩ := arg_int a2
  obtain ⟨_, rfl, _⟩ := arg_int a3
  exact ⟨_, law5 _ (awOk bs) (sp0 bs) t⟩
end T
end Go.Abs
