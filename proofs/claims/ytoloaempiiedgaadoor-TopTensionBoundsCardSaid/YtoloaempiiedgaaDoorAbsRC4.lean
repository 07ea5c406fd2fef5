--
import Derived.Test.YtoloaempiiedgaaDoorAbsRGM
import Derived.Test.YtoloaempiiedgaaDoorAbsWpM
import Derived.Laws.Strings
set_option linter.unusedSimpArgs false
set_option linter.unusedVariables false
namespace Go.Abs
namespace R
set_option maxRecDepth 100000
set_option maxHeartbeats 0
abbrev W (n : Int) : Int := IntKind.wrap .i64 n
theorem w1 {i : Nat} (h : i < 1000000) : W ((i : Int) + 1) = ((i + 1 : Nat) : Int) := by unfold W; rw [wrap_eq (by omega) (by omega)]; rfl
theorem bytes_len (s : ByteArray) : s.toList.length = s.size := by rw [ByteArray.toList_eq]; simp
def bN (s : ByteArray) (i : Nat) : Int := (((s.toList[i]?).getD 0).toNat : Int)
def letN (x : Int) : Bool := (decide (97 ≤ x) && decide (x ≤ 122)) || (decide (65 ≤ x) && decide (x ≤ 90))
def digN (x : Int) : Bool := decide (48 ≤ x) && decide (x ≤ 57)
def badN (x : Int) : Bool := !letN x && !digN x && !decide (x = 45)
def nameB (s : ByteArray) : Bool := decide (s.size ≠ 0) && decide (s.size ≤ 12) && letN (bN s 0) && (List.range s.size).all fun i => !badN (bN s i)
theorem bN_get {s : ByteArray} {i : Nat} (h : i < s.size) : (s.toList)[i]? = some ((s.toList)[i]'(by rw [bytes_len]; exact h)) := List.getElem?_eq_getElem _
theorem bN_eq {s : ByteArray} {i : Nat} (h : i < s.size) : ((s.toList[i]'(by rw [bytes_len]; exact h)).toNat : Int) = bN s i := by
 unfold bN; rw [bN_get h]; rfl
theorem c121 {d lim : Nat} {h : Heap} {x : Int} : E.call (d + 1) lim 121 [.int .u8 x] h = some (.bool (letN x), h) := by
 refine call1 fn121 rfl (by simp [ef121]) ?_
 simp [ef121, letN]
 grind
theorem c94 {d lim : Nat} {h : Heap} {x : Int} : E.call (d + 1) lim 94 [.int .u8 x] h = some (.bool (digN x), h) := by
 refine call1 fn94 rfl (by simp [ef94]) ?_
 simp [ef94, digN]
 grind
theorem nameB_true {s : ByteArray} : nameB s = true ↔ s.size ≠ 0 ∧ s.size ≤ 12 ∧ letN (bN s 0) = true ∧ ∀ i, i < s.size → badN (bN s i) = false := by
 simp [nameB, and_assoc]
theorem c98 {d lim : Nat} {h : Heap} {s : ByteArray} : E.call (d + 2) lim 98 [.string s] h = some (.bool (nameB s), h) := by
 refine call1 fn98 rfl (by simp [ef98]) ?_
 have hget : ∀ i, i < s.size → ∃ c : UInt8, s.toList[i]? = some c ∧ (c.toNat : Int) = bN s i := fun i hi => ⟨_, bN_get hi, bN_eq hi⟩
 by_cases h0 : s.size = 0
 ·have : nameB s = false := by simp [nameB, h0]
  simp [ef98, h0, this]
 ·by_cases h12 : s.size ≤ 12
  ·obtain ⟨c0, g0, f0⟩ := hget 0 (by omega)
   have i12 : ¬ (12 : Int) < s.size := by omega
   by_cases hl : letN (bN s 0) = true
   ·simp [ef98, h0, i12, h12, c121, hl, g0, f0]
    refine wpC_loop (fun q st => ∃ i, q = s.size - i ∧ i ≤ s.size ∧ (∀ j, j < i → badN (bN s j) = false) ∧ st = ⟨[(0, .string s), (3, i64 (i : Nat))], h.freeze⟩) s.size (by show s.size < 2 ^ 64; omega) ?_ ?_
    ·simp [St.tidy]
     exact ⟨0, by omega, by omega, fun j hj => by omega, rfl⟩
    ·rintro q hq _ ⟨i, rfl, hi, hb, rfl⟩
     by_cases hlt : i < s.size
     ·obtain ⟨ci, gi, fi⟩ := hget i hlt
      have w1' := w1 (i := i) (by omega)
      simp only [W] at w1'
      by_cases hbad : badN (bN s i) = true
      ·have : nameB s = false := by
        rw [Bool.eq_false_iff]; intro q
        have := (nameB_true.1 q).2.2.2 i hlt
        rw [hbad] at this; cases this
       unfold badN at hbad
       simp at hbad
       simp [hlt, c121, c94, gi, fi, hbad, this]
      ·have hb2 : badN (bN s i) = false := by simpa using hbad
       have fin : ∃ j, j < s.size - i ∧ ∃ k, j = s.size - k ∧ k ≤ s.size ∧ (∀ j, j < k → badN (bN s j) = false) ∧ (i : Int) + 1 = (k : Int) :=
        ⟨s.size - (i + 1), by omega, i + 1, rfl, by omega, fun j hj => by
         by_cases e : j = i
         ·subst e; exact hb2
         ·exact hb j (by omega), rfl⟩
       unfold badN at hb2
       simp at hb2
       by_cases q1 : letN (bN s i) = true
       ·simp [hlt, c121, c94, gi, fi, q1, w1', St.tidy]; exact fin
       ·simp only [Bool.not_eq_true] at q1
        by_cases q2 : digN (bN s i) = true
        ·simp [hlt, c121, c94, gi, fi, q1, q2, w1', St.tidy]; exact fin
        ·simp only [Bool.not_eq_true] at q2
         have q3 := hb2 q1 q2
         simp [hlt, c121, c94, gi, fi, q1, q2, q3, w1', St.tidy]; exact ⟨fun _ => fin, fun _ => ⟨fun _ => fin, fun _ => fin⟩⟩
     ·have e : i = s.size := by omega
      subst e
      have : nameB s = true := nameB_true.2 ⟨h0, h12, hl, hb⟩
      simp [this]
   ·have : nameB s = false := by simp [nameB, hl]
    simp only [Bool.not_eq_true] at hl
    simp [ef98, h0, i12, h12, c121, hl, g0, f0, this]
  ·have i12 : (12 : Int) < s.size := by omega
   have : nameB s = false := by simp [nameB, h12]
   simp [ef98, h0, i12, this]
def stopN (i : Nat) (x : Int) : Bool := !letN x && (decide (i = 0) || (!decide (x = 45) && (decide (x < 48) || decide (57 < x))))
theorem stopN_bad {i : Nat} {x : Int} (h : i ≠ 0) : stopN i x = badN x := by
 unfold stopN badN digN
 grind
theorem c114 {d lim : Nat} {h : Heap} {s : ByteArray} (hs : s.size ≤ 1000) : E.call (d + 1) lim 114 [.string s] h = some (.bool (nameB s), h) := by
 refine call1 fn114 rfl (by simp [ef114]) ?_
 have hget : ∀ i, i < s.size → ∃ c : UInt8, s.toList[i]? = some c ∧ (c.toNat : Int) = bN s i := fun i hi => ⟨_, bN_get hi, bN_eq hi⟩
 have hcell : ∀ i, i < s.size → (s.toList.map fun c => Value.int .u8 c.toNat)[i]? = some (.int .u8 (bN s i)) := fun i hi => by
  obtain ⟨c, e, f⟩ := hget i hi
  rw [List.getElem?_map, e]; simp [f]
 have hp : (s.toList.map fun c => Value.int .u8 c.toNat).all plainV = true := by simp [List.all_map]
 have hm : s.size ≤ maxLen := Nat.le_trans hs (by decide)
 have hl : (s.toList.map fun c => Value.int .u8 c.toNat).length = s.size := by simp [bytes_len]
 simp only [ef114]
 simp [hm]
 generalize (s.toList.map fun c => Value.int .u8 c.toNat) = L at *
 refine wpC_loop (fun q st => ∃ i, q = s.size - i ∧ i ≤ s.size ∧ (∀ j, j < i → stopN j (bN s j) = false) ∧ st = ⟨[(0, .string s), (7, .slice (some ⟨h.length, 0, none⟩) s.size 1), (8, i64 (s.size : Nat)), (9, i64 (i : Nat))], h.freeze ++ [some ⟨L, false⟩]⟩) s.size (by show s.size < 2 ^ 64; omega) ?_ ?_
 ·simp [St.tidy, hp]
  exact ⟨0, by omega, by omega, fun j hj => by omega, rfl⟩
 ·rintro q hq _ ⟨i, rfl, hi, hb, rfl⟩
  by_cases hlt : i < s.size
  ·have ci := hcell i hlt
   have w1' := w1 (i := i) (by omega)
   simp only [W] at w1'
   by_cases hst : stopN i (bN s i) = true
   ·have hn : nameB s = false := by
     rw [Bool.eq_false_iff]; intro q
     obtain ⟨q1, q2, q3, q4⟩ := nameB_true.1 q
     by_cases i0 : i = 0
     ·subst i0; unfold stopN at hst; rw [q3] at hst; simp at hst
     ·rw [stopN_bad i0, q4 i hlt] at hst; cases hst
    generalize bN s i = x at *
    have h3 : ¬ (97 ≤ x ∧ x ≤ 122) ∧ ¬ (65 ≤ x ∧ x ≤ 90) ∧ (i = 0 ∨ (x ≠ 45 ∧ (x < 48 ∨ 57 < x))) := by unfold stopN letN at hst; grind
    simp [hlt, ci, hn]
    clear hst hb hcell hget hp ci hq hi hm hs hn
    repeat' (first | refine And.intro ?_ ?_ | intro _)
    all_goals omega
   ·have hb2 : stopN i (bN s i) = false := by simpa using hst
    have fin : ∃ j, j < s.size - i ∧ ∃ k, j = s.size - k ∧ k ≤ s.size ∧ (∀ j, j < k → stopN j (bN s j) = false) ∧ (i : Int) + 1 = (k : Int) :=
     ⟨s.size - (i + 1), by omega, i + 1, rfl, by omega, fun j hj => by
      by_cases e : j = i
      ·subst e; exact hb2
      ·exact hb j (by omega), rfl⟩
    clear hb
    generalize hx : bN s i = x at *
    generalize hF : (∃ j, j < s.size - i ∧ ∃ k, j = s.size - k ∧ k ≤ s.size ∧ (∀ j, j < k → stopN j (bN s j) = false) ∧ (i : Int) + 1 = (k : Int)) = F at *
    have h3 : (97 ≤ x ∧ x ≤ 122) ∨ (65 ≤ x ∧ x ≤ 90) ∨ (i ≠ 0 ∧ (x = 45 ∨ (48 ≤ x ∧ x ≤ 57))) := by unfold stopN letN at hb2; grind
    have hFt : F := fin
    simp [hlt, ci, w1', St.tidy, hp, hF, hFt]
    clear hcell hget hF hp ci w1' fin hq hi hm hs hx hb2
    repeat' (first | refine And.intro ?_ ?_ | intro _)
    all_goals (exfalso; omega)
  ·have e : i = s.size := by omega
   subst e
   have hn : nameB s = (decide (s.size ≠ 0) && decide (s.size ≤ 12)) := by
    rw [Bool.eq_iff_iff, nameB_true]
    constructor
    ·rintro ⟨q1, q2, _⟩; simp [q1, q2]
    ·intro q
     rw [Bool.and_eq_true, decide_eq_true_eq, decide_eq_true_eq] at q
     refine ⟨q.1, q.2, ?_, fun j hj => ?_⟩
     ·have := hb 0 (by omega)
      unfold stopN at this; simpa using this
     ·by_cases j0 : j = 0
      ·subst j0
       have := hb 0 (by omega)
       unfold stopN at this; simp at this
       simp [badN, this]
      ·rw [← stopN_bad j0]; exact hb j hj
   by_cases h0 : s.size = 0
   ·have e0 := bytes_nil.2 h0
    have hn0 : nameB s = false := by rw [hn, h0]; rfl
    subst e0
    simp [hn0]
   ·have e0 : ¬ s = ⟨#[]⟩ := fun q => h0 (bytes_nil.1 q)
    simp [e0, hn, h0]
    omega
end R
end Go.Abs
