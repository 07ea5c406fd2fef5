/- Numbers of any size: digits to the base 2^64. -/
import Derived.Test.YtjalhpdmdiimoaaDoorAbsNM
import Derived.Test.YtjalhpdmdiimoaaDoorAbsNT
import Derived.Test.YtjalhpdmdiimoaaDoorAbsArgs
import Derived.Test.YtjalhpdmdiimoaaDoorAbsWpM
set_option linter.unusedSimpArgs false
set_option linter.unusedVariables false
namespace Go.Abs
def cU (l : List Nat) : List Value := l.map fun (n : Nat) => Value.int .u64 (n : Int)
@[simp] theorem cU_len (l : List Nat) : (cU l).length = l.length := by simp [cU]
theorem cU_get {l : List Nat} {i : Nat} (h : i < l.length) : (cU l)[i]? = some (.int .u64 (l[i]'h)) := by simp [cU, h]
@[simp] theorem cU_getE {l : List Nat} {i : Nat} (h : i < (cU l).length) : (cU l)[i]'h = .int .u64 ((l[i]'(by simpa using h) : Nat) : Int) := by simp [cU]
@[simp] theorem cU_plain (l : List Nat) : (cU l).all plainV = true := by simp [cU, plainV]
abbrev SlU (h : Heap) (v : Value) (l : List Nat) : Prop := Sl 1 h v l.length (cU l)
def digits (l : List Nat) : Prop := ∀ x ∈ l, x < 18446744073709551616
/-- A product with a digit, and a carry. -/
def mulC : List Nat → Nat → Nat → List Nat
  | [], _, c => if 0 < c then [c] else []
  | x :: r, m, c => (x * m + c) % 18446744073709551616 :: mulC r m ((x * m + c) / 18446744073709551616)
def val (B : Nat) : List Nat → Nat
  | [] => 0
  | x :: r => x + B * val B r
theorem mulC_val (m : Nat) : ∀ (l : List Nat) (c : Nat), val 18446744073709551616 (mulC l m c) = val 18446744073709551616 l * m + c
  | [], c => by
    unfold mulC; split
    · simp [val]
    · have : c = 0 := by omega
      subst this; simp [val]
  | x :: r, c => by
    unfold mulC
    simp only [val]
    rw [mulC_val m r]
    have := Nat.mod_add_div (x * m + c) 18446744073709551616
    rw [Nat.mul_add, Nat.add_mul]
    have e : 18446744073709551616 * (val 18446744073709551616 r * m) = 18446744073709551616 * val 18446744073709551616 r * m := (Nat.mul_assoc _ _ _).symm
    omega
theorem mul_carry {x m c : Nat} (hx : x < 18446744073709551616) (hm : m < 18446744073709551616) (hc : c < 18446744073709551616) : (x * m + c) / 18446744073709551616 < 18446744073709551616 := by
  have : x * m ≤ (18446744073709551616 - 1) * (18446744073709551616 - 1) := Nat.mul_le_mul (by omega) (by omega)
  rw [Nat.div_lt_iff_lt_mul (by decide)]
  have e : (18446744073709551616 - 1) * (18446744073709551616 - 1) + 18446744073709551616 ≤ 18446744073709551616 * 18446744073709551616 := by decide
  omega
namespace N
set_option maxRecDepth 100000
set_option maxHeartbeats 0
theorem step_mul {x m c : Nat} (hx : x < 18446744073709551616) (hm : m < 18446744073709551616) (hc : c < 18446744073709551616) :
    ((x * m % 18446744073709551616 + c) % 18446744073709551616 = (x * m + c) % 18446744073709551616) ∧ (x * m / 18446744073709551616 + (x * m % 18446744073709551616 + c) / 18446744073709551616 = (x * m + c) / 18446744073709551616) := by
  have h1 := Nat.div_add_mod (x * m) 18446744073709551616
  constructor
  · omega
  · omega
theorem c128n {d lim : Nat} {h : Heap} {x y : Nat} (hx : x < 18446744073709551616) (hy : y < 18446744073709551616) : E.call (d + 1) lim 128 [.int .u64 (x : Int), .int .u64 (y : Int)] h = some (.tuple #[.int .u64 ((x * y / 18446744073709551616 : Nat) : Int), .int .u64 ((x * y % 18446744073709551616 : Nat) : Int)], h) := by
  rw [c128 ⟨by omega, by omega⟩ ⟨by omega, by omega⟩]; rfl
theorem wrapUn {n : Nat} (h : n < 18446744073709551616) : IntKind.wrap .u64 (n : Int) = n := wrapUR ⟨by omega, by omega⟩
theorem cU_snoc (l : List Nat) (x : Nat) : cU l ++ [.int .u64 (x : Int)] = cU (l ++ [x]) := by simp [cU]
theorem c129 {d lim : Nat} {h : Heap} {v : Value} {l : List Nat} {m : Nat} (s : SlU h v l) (hl : digits l) (hm : m < 18446744073709551616) (hs : l.length < 1000000) :
    E.call (d + 2) lim 129 [v, .int .u64 (m : Int)] h = some (.slice (some ⟨h.length, 0, none⟩) (mulC l m 0).length 1, h ++ [some ⟨cU (mulC l m 0), true⟩]) := by
  have r := s.rules2
  have low := s.low
  refine call_pure fn129 rfl (by simp [ef129]) ?_
  have w0 : IntKind.wrap .i64 ((l.length : Int) + 1) = ((l.length + 1 : Nat) : Int) := by rw [wrap_eq (by omega) (by omega)]; rfl
  have hmx : ∀ n, n ≤ 1000001 → n ≤ maxLen := fun n hn => Nat.le_trans hn (by decide)
  have hb8 : 8 * (((l.length : Int) + 1)) ≤ 140737488355328 := by omega
  have e0 : ((l.length : Int) + 1 ≤ maxLen) := by have : ((l.length + 1 : Nat) : Int) ≤ (maxLen : Int) := Int.ofNat_le.2 (hmx _ (by omega)); simpa using this
  have e1 : (0 : Int) ≤ (l.length : Int) + 1 := by omega
  have hv : (l.length = 0 ∧ (v = .slice none 0 0 ∨ ∃ b o t, v = .slice (some ⟨b, o, none⟩) 0 t ∧ b < h.length)) ∨ (0 < l.length ∧ ∃ b o, v = .slice (some ⟨b, o, none⟩) l.length 1 ∧ b < h.length) := by
    rcases Nat.eq_zero_or_pos l.length with q | q
    · refine .inl ⟨q, ?_⟩
      rcases low with e | ⟨b, o, mm, t, e, hb⟩
      · exact .inl e
      · have := s.len; rw [e] at this; simp at this
        exact .inr ⟨b, o, t, by rw [e, this, q], hb⟩
    · exact .inr ⟨q, _, _, s.addr (by omega), s.lt (by omega)⟩
  simp [ef129, r, w0, zeros, hb8, e0, e1]
  refine wpC_loop (fun q st => ∃ (i c : Nat) (out : List Nat), q = l.length - i ∧ i ≤ l.length ∧ c < 18446744073709551616 ∧ out.length = i ∧ out ++ mulC (l.drop i) m c = mulC l m 0 ∧
    st = ⟨[(1, .int .u64 (m : Int)), (5, .slice (some ⟨h.length, 0, none⟩) out.length 1), (6, .int .u64 (c : Int)), (17, v), (18, i64 l.length), (19, i64 i)], h.freeze ++ [some ⟨cU out, true⟩]⟩) l.length (by show l.length < 2 ^ 64; omega) ?_ ?_
  · have ab : Blk.addrs ⟨[], true⟩ = some [] := by rfl
    rcases hv with ⟨q, rfl | ⟨b, o, t, rfl, hb⟩⟩ | ⟨q, b, o, rfl, hb⟩
    · simp [St.tidy, q, ab]
      exact ⟨0, by omega, rfl, rfl, by simp [Blk.ren, cU]⟩
    · simp [St.tidy, q, hb, ab]
      exact ⟨0, by omega, rfl, rfl, by simp [Blk.ren, cU]⟩
    · simp [St.tidy, hb, ab]
      exact ⟨0, by simp, by omega, 0, by omega, [], rfl, by simp, ⟨rfl, rfl, rfl⟩, by simp [Blk.ren, cU]⟩
  · rintro q0 hq _ ⟨i, c, out, rfl, hi, hc, ho, hout, rfl⟩
    by_cases hlt : i < l.length
    · obtain ⟨q, b, o, rfl, hb⟩ := hv.resolve_left (fun z => by omega)
      simp only [slB_some, slO_some] at r
      have g := cU_get hlt
      have hx : l[i] < 18446744073709551616 := hl _ (List.getElem_mem hlt)
      have u1 : IntKind.wrap .i64 ((i : Int) + 1) = ((i + 1 : Nat) : Int) := by rw [wrap_eq (by omega) (by omega)]; rfl
      have k1 : i < l.length * 1 := by omega
      obtain ⟨sm1, sm2⟩ := step_mul hx hm hc
      have sm3 := mul_carry hx hm hc
      have hd : l.drop i = l[i] :: l.drop (i + 1) := List.drop_eq_getElem_cons hlt
      have hmu : mulC (l.drop i) m c = (l[i] * m + c) % 18446744073709551616 :: mulC (l.drop (i + 1)) m ((l[i] * m + c) / 18446744073709551616) := by rw [hd]; rfl
      have a1 : (i + 1) * 8 ≤ 140737488355328 := by omega
      have a2 := hmx (i + 1) (by omega)
      have a3 := hmx 1 (by omega)
      have c1 := fun lim hh => @c128n d lim hh l[i] m hx hm
      generalize hD : (l[i] * m + c) % 18446744073709551616 = D at *
      generalize hC : (l[i] * m + c) / 18446744073709551616 = C at *
      generalize hH : l[i] * m / 18446744073709551616 = H at *
      generalize hL : l[i] * m % 18446744073709551616 = L at *
      have v1 : ((L : Int) + c) % 18446744073709551616 = (D : Int) := by omega
      have v2 : IntKind.wrap .u64 ((H : Int) + ((L : Int) + c) / 18446744073709551616) = (C : Int) := by
        have : ((H : Int) + ((L : Int) + c) / 18446744073709551616) = (C : Int) := by omega
        rw [this]; exact wrapUn sm3
      subst ho
      simp [St.tidy, hlt, Nat.not_le.2 hlt, r, hb, g, u1, c1, E.append, E.added, a1, a2, a3, v1, v2]
      refine ⟨l.length - (out.length + 1), by omega, out.length + 1, rfl, by omega, C, sm3, out ++ [D], by simp, ?_, ⟨by simp, rfl, by omega⟩, by simp [cU]⟩
      rw [← hout, hmu]; simp
    · subst ho
      have e : out.length = l.length := by omega
      have a1 : (out.length + 1) * 8 ≤ 140737488355328 := by omega
      have a2 := hmx (out.length + 1) (by omega)
      have a3 := hmx 1 (by omega)
      have hd : out ++ (if 0 < c then [c] else []) = mulC l m 0 := by rw [← hout, e, List.drop_length]; rfl
      rw [e] at hlt
      by_cases h0 : 0 < c
      · simp [h0] at hd
        rw [e] at a1 a2
        simp [e, h0, E.append, E.added, a1, a2, a3, ← hd, St.tidy, cU]
      · simp [h0] at hd
        simp [e, h0, ← hd, St.tidy, cU]
end N
end Go.Abs
