/- A power multiplied onto digits. -/
import Derived.Test.YtjalhpdmdiimoaaDoorAbsNB3
set_option linter.unusedSimpArgs false
set_option linter.unusedVariables false
namespace Go.Abs
theorem mulC_ne {l : List Nat} {m c : Nat} (h : l ≠ []) : mulC l m c ≠ [] := by
  cases l with
  | nil => exact absurd rfl h
  | cons x r => simp [mulC]
theorem mulC_len (m : Nat) : ∀ (l : List Nat) (c : Nat), (mulC l m c).length ≤ l.length + 1
  | [], c => by unfold mulC; split <;> simp
  | x :: r, c => by simp only [mulC, List.length_cons]; have := mulC_len m r ((x * m + c) / 18446744073709551616); omega
theorem mulC_digits {m : Nat} (hm : m < 18446744073709551616) : ∀ {l : List Nat} {c : Nat}, digits l → c < 18446744073709551616 → digits (mulC l m c)
  | [], c, _, hc => by
    unfold mulC; split
    · intro x hx; simp at hx; omega
    · intro x hx; simp at hx
  | x :: r, c, hl, hc => by
    intro y hy
    simp only [mulC, List.mem_cons] at hy
    rcases hy with rfl | hy
    · exact Nat.mod_lt _ (by decide)
    · exact mulC_digits hm (fun z hz => hl z (List.mem_cons_of_mem _ hz)) (mul_carry (hl x (List.mem_cons_self ..)) hm hc) y hy
theorem mulC_topped {m : Nat} (h0 : 0 < m) : ∀ {l : List Nat} {c : Nat}, topped l → topped (mulC l m c)
  | [], c, _ => by
    unfold mulC; split
    · intro h; simp; omega
    · intro h; exact absurd rfl h
  | [x], c, hl => by
    have hx : x ≠ 0 := by simpa using hl (by simp)
    have h1 : 0 < x * m := Nat.mul_pos (by omega) h0
    intro h
    simp only [mulC] at h ⊢
    by_cases q : 0 < (x * m + c) / 18446744073709551616
    · simp [q]; omega
    · simp [q]
      have e : (x * m + c) / 18446744073709551616 = 0 := by omega
      have := Nat.div_add_mod (x * m + c) 18446744073709551616
      rw [e] at this
      omega
  | x :: y :: r, c, hl => by
    have ht : topped (y :: r) := by intro h; have := hl (by simp); simpa using this
    have ih := mulC_topped h0 (l := y :: r) (c := (x * m + c) / 18446744073709551616) ht
    intro h
    have hne : mulC (y :: r) m ((x * m + c) / 18446744073709551616) ≠ [] := mulC_ne (by simp)
    show ((x * m + c) % 18446744073709551616 :: mulC (y :: r) m ((x * m + c) / 18446744073709551616)).getLast _ ≠ 0
    rw [List.getLast_cons hne]
    exact ih hne
structure Num (l : List Nat) (n : Nat) : Prop where
  dig : digits l
  top : topped l
  ne : l ≠ []
  val : val 18446744073709551616 l = n
theorem Num.mul {l : List Nat} {n m : Nat} (h : Num l n) (h0 : 0 < m) (hm : m < 18446744073709551616) : Num (mulC l m 0) (n * m) :=
  ⟨mulC_digits hm h.dig (by decide), mulC_topped h0 h.top, mulC_ne h.ne, by rw [mulC_val, h.val, Nat.add_zero]⟩
theorem Num.one : Num [1] 1 := ⟨by intro x hx; simp at hx; omega, by intro h; simp, by simp, by simp [Abs.val]⟩
def grow (b : Nat) : Nat → Nat → Nat × Nat
  | 0, s => (s, 0)
  | k + 1, s => if s * b < 18446744073709551616 then grow b k (s * b) else (s, k + 1)
theorem grow_succ (b k s : Nat) : grow b (k + 1) s = if s * b < 18446744073709551616 then grow b k (s * b) else (s, k + 1) := rfl
def powF (b : Nat) : Nat → Nat → List Nat → List Nat
  | 0, _, l => l
  | f + 1, n, l => if n = 0 then l else powF b f (grow b n 1).2 (mulC l (grow b n 1).1 0)
theorem powF_zero (b f : Nat) (l : List Nat) : powF b f 0 l = l := by cases f <;> simp [powF]
theorem powF_pos {b f n : Nat} {l : List Nat} (hf : n ≤ f) (h : 0 < n) : powF b f n l = powF b (f - 1) (grow b n 1).2 (mulC l (grow b n 1).1 0) := by
  cases f with
  | zero => omega
  | succ f => simp [powF, Nat.pos_iff_ne_zero.1 h]
theorem SlU_own {h : Heap} {b : Nat} {l : List Nat} {rw : Bool} (hb : b < h.length) (e : h.get b = some ⟨cU l, rw⟩) : SlU h (.slice (some ⟨b, 0, none⟩) l.length 1) l :=
  ⟨rfl, by simp, fun _ => rfl, .inr ⟨b, 0, l.length, 1, rfl, hb⟩, fun k hk => by simp only [slB_some, slO_some, Nat.zero_add]; rw [cell_get e]⟩
theorem grow_spec {b : Nat} (h0 : 0 < b) : ∀ (k s : Nat), 0 < s → s < 18446744073709551616 → 0 < (grow b k s).1 ∧ (grow b k s).1 < 18446744073709551616 ∧ (grow b k s).1 * b ^ (grow b k s).2 = s * b ^ k ∧ (grow b k s).2 ≤ k
  | 0, s, h1, h2 => by simp [grow, h1, h2]
  | k + 1, s, h1, h2 => by
    rw [grow_succ]
    split
    · rename_i h
      obtain ⟨a1, a2, a3, a4⟩ := grow_spec h0 k (s * b) (Nat.mul_pos h1 h0) h
      exact ⟨a1, a2, by rw [a3, Nat.pow_succ, Nat.mul_assoc, Nat.mul_comm b], by omega⟩
    · exact ⟨h1, h2, rfl, Nat.le_refl _⟩
theorem grow_lt {b n : Nat} (h0 : 0 < b) (hb : b < 18446744073709551616) (hn : 0 < n) : (grow b n 1).2 < n := by
  cases n with
  | zero => omega
  | succ k =>
    rw [grow_succ, if_pos (by omega)]
    have := (grow_spec h0 k (1 * b) (by omega) (by omega)).2.2.2
    omega
theorem powF_num {b : Nat} (h0 : 0 < b) (hb : b < 18446744073709551616) : ∀ (f n : Nat) {l : List Nat} {c : Nat}, n ≤ f → Num l c → Num (powF b f n l) (c * b ^ n) ∧ (powF b f n l).length ≤ l.length + n
  | 0, n, l, c, hn, h => by
    have : n = 0 := by omega
    subst this; exact ⟨by simpa [powF] using h, by simp [powF]⟩
  | f + 1, n, l, c, hn, h => by
    by_cases q : n = 0
    · subst q; exact ⟨by simpa [powF] using h, by simp [powF]⟩
    · obtain ⟨a1, a2, a3, a4⟩ := grow_spec h0 n 1 (by omega) (by omega)
      have a5 := grow_lt h0 hb (n := n) (by omega)
      obtain ⟨b1, b2⟩ := powF_num h0 hb f (grow b n 1).2 (by omega) (h.mul a1 a2)
      have b3 := mulC_len (grow b n 1).1 l 0
      have e : powF b (f + 1) n l = powF b f (grow b n 1).2 (mulC l (grow b n 1).1 0) := by simp [powF, q]
      rw [e]
      refine ⟨?_, by omega⟩
      rw [Nat.mul_assoc, a3, Nat.one_mul] at b1
      exact b1
namespace N
set_option maxRecDepth 100000
set_option maxHeartbeats 0
theorem c81z {d lim : Nat} {h : Heap} {v : Value} {l : List Nat} {b : Nat} {n : Int} (s : SlU h v l) (hn : n ≤ 0) :
    E.call (d + 1) lim 81 [.int .u64 (b : Int), i64 n, v] h = some (v, h) := by
  have p := s.rules2
  refine call1 fn81 rfl (by simp [ef81]) ?_
  simp [ef81]
  refine wpC_loop (fun q st => q = 0 ∧ st = ⟨[(0, .int .u64 (b : Int)), (1, i64 n), (2, v)], h.freeze⟩) 0 (by show 0 < 2 ^ 64; decide) ?_ ?_
  · simp [St.tidy, p]
  · rintro q0 hq _ ⟨rfl, rfl⟩
    have : ¬ (0 < n) := by omega
    simp [this, p]
theorem c81 {d lim : Nat} {h : Heap} {v : Value} {l : List Nat} {b n : Nat} (s : SlU h v l) (hl : digits l) (h0 : 0 < b) (hb : b < 18446744073709551616) (hn : 0 < n) (hs : l.length + n < 100000) :
    E.call (d + 3) lim 81 [.int .u64 (b : Int), i64 n, v] h = some (.slice (some ⟨h.length, 0, none⟩) (powF b n n l).length 1, h ++ [some ⟨cU (powF b n n l), true⟩]) := by
  have p := s.rules2
  have ct1 : ∀ m : Nat, m < 18446744073709551616 → E.call (d + 2) h.length 129 [v, .int .u64 (m : Int)] h.freeze = some (.slice (some ⟨h.length, 0, none⟩) (mulC l m 0).length 1, h.freeze ++ [some ⟨cU (mulC l m 0), true⟩]) := fun m hm => by
    simpa using c129 (lim := h.length) (Sl_freeze.2 s) hl hm (by omega)
  have ct2 : ∀ out, digits out → out.length < 1000000 → ∀ m : Nat, m < 18446744073709551616 → E.call (d + 2) h.length 129 [.slice (some ⟨h.length, 0, none⟩) out.length 1, .int .u64 (m : Int)] (h.freeze ++ [some ⟨cU out, true⟩]) =
      some (.slice (some ⟨h.length + 1, 0, none⟩) (mulC out m 0).length 1, h.freeze ++ [some ⟨cU out, true⟩, some ⟨cU (mulC out m 0), true⟩]) := fun out hd hlen m hm => by
    have ss : SlU (h.freeze ++ [some ⟨cU out, true⟩]) (.slice (some ⟨h.length, 0, none⟩) out.length 1) out := SlU_own (rw := true) (by simp) (by rw [hget_base0 (by simp)]; rfl)
    simpa using c129 (lim := h.length) ss hd hm hlen
  refine call_pure fn81 rfl (by simp [ef81]) ?_
  simp [ef81]
  refine wpC_loop (fun q st => q ≤ n ∧ ((q = n ∧ st = ⟨[(0, .int .u64 (b : Int)), (1, i64 q), (2, v)], h.freeze⟩) ∨
    (∃ f out, q ≤ f ∧ q < n ∧ powF b f q out = powF b n n l ∧ digits out ∧ out.length + q ≤ l.length + n ∧
      st = ⟨[(0, .int .u64 (b : Int)), (1, i64 q), (2, .slice (some ⟨h.length, 0, none⟩) out.length 1)], h.freeze ++ [some ⟨cU out, true⟩]⟩))) n (by show n < 2 ^ 64; omega) ?_ ?_
  · simp [St.tidy, p]
  · rintro q hq _ ⟨hqn, ⟨rfl, rfl⟩ | ⟨f, out, hf, hqn', hp, hd, hlen, rfl⟩⟩
    · have hn' : (0 : Int) < (q : Int) := by omega
      simp [hn, hn']
      refine wpC_loop (fun k st => ∃ sm : Nat, k ≤ q ∧ 0 < sm ∧ sm < 18446744073709551616 ∧ grow b k sm = grow b q 1 ∧ (k = q ∧ sm = 1 ∨ k < q) ∧
        st = ⟨[(0, .int .u64 (b : Int)), (1, i64 k), (2, v), (7, .int .u64 (sm : Int))], h.freeze⟩) q (by show q < 2 ^ 64; omega) ?_ ?_
      · simp [St.tidy, p]
        exact ⟨1, by decide, by decide, rfl, rfl, rfl⟩
      · rintro k hk _ ⟨sm, hkq, s0, s1, hg, hks, rfl⟩
        have hdone : grow b k sm = (sm, k) → k < q → (grow b q 1).1 = sm ∧ (grow b q 1).2 = k := by
          intro e _; rw [← hg, e]; exact ⟨rfl, rfl⟩
        cases k with
        | zero =>
          obtain ⟨e1, e2⟩ := hdone rfl (by omega)
          have cc := ct1 sm s1
          simp [cc, St.tidy]
          exact ⟨0, by omega, by omega, ⟨q - 1, by omega, by omega, mulC l sm 0, by rw [powF_pos (Nat.le_refl q) hn, e1, e2], mulC_digits s1 hl (by decide), by have := mulC_len sm l 0; omega, ⟨rfl, rfl⟩, rfl⟩⟩
        | succ k =>
          have k0 : (0 : Int) < ((k + 1 : Nat) : Int) := by omega
          have u1 : IntKind.wrap .i64 (k : Int) = (k : Int) := by rw [wrap_eq (by omega) (by omega)]
          have c1 := fun d lim hh => @c128n d lim hh sm b s1 hb
          by_cases ov : sm * b < 18446744073709551616
          · have hi : sm * b / 18446744073709551616 = 0 := by omega
            have lo : sm * b % 18446744073709551616 = sm * b := Nat.mod_eq_of_lt ov
            rw [grow_succ, if_pos ov] at hg
            have sp := Nat.mul_pos s0 h0
            generalize hP : sm * b = P at *
            rw [hi, lo] at c1
            simp [c1, u1, St.tidy, p]
            exact ⟨k, by omega, by omega, P, sp, ov, hg, .inr (by omega), rfl, rfl⟩
          · have hi : sm * b / 18446744073709551616 ≠ 0 := by omega
            have hlt : k + 1 < q := by
              rcases hks with ⟨_, rfl⟩ | z
              · omega
              · exact z
            obtain ⟨e1, e2⟩ := hdone (by rw [grow_succ, if_neg ov]) hlt
            generalize hP : sm * b / 18446744073709551616 = P at *
            generalize hQ : sm * b % 18446744073709551616 = Q at *
            have cc := ct1 sm s1
            have hi' : ((P : Int) != 0) = true := by simp; omega
            simp [c1, hi, hi', cc, St.tidy]
            exact ⟨k + 1, by omega, by omega, ⟨q - 1, by omega, by omega, mulC l sm 0, by rw [powF_pos (Nat.le_refl q) hn, e1, e2], mulC_digits s1 hl (by decide), by have := mulC_len sm l 0; omega, ⟨rfl, rfl⟩, rfl⟩⟩
    · by_cases hz : q = 0
      · subst hz
        rw [powF_zero] at hp
        subst hp
        simp [St.tidy]
      · have hqp : 0 < q := by omega
        have hn' : (0 : Int) < (q : Int) := by omega
        simp [hqp, hn']
        refine wpC_loop (fun k st => ∃ sm : Nat, k ≤ q ∧ 0 < sm ∧ sm < 18446744073709551616 ∧ grow b k sm = grow b q 1 ∧ (k = q ∧ sm = 1 ∨ k < q) ∧
          st = ⟨[(0, .int .u64 (b : Int)), (1, i64 k), (2, .slice (some ⟨h.length, 0, none⟩) out.length 1), (7, .int .u64 (sm : Int))], h.freeze ++ [some ⟨cU out, true⟩]⟩) q (by show q < 2 ^ 64; omega) ?_ ?_
        · simp [St.tidy, hd]
          exact ⟨1, by decide, by decide, rfl, rfl, rfl⟩
        · rintro k hk _ ⟨sm, hkq, s0, s1, hg, hks, rfl⟩
          have hdone : grow b k sm = (sm, k) → k < q → (grow b q 1).1 = sm ∧ (grow b q 1).2 = k := by
            intro e _; rw [← hg, e]; exact ⟨rfl, rfl⟩
          cases k with
          | zero =>
            obtain ⟨e1, e2⟩ := hdone rfl (by omega)
            have cc := ct2 out hd (by omega) sm s1
            simp [cc, St.tidy]
            exact ⟨0, by omega, by omega, ⟨f - 1, by omega, by omega, mulC out sm 0, by rw [← hp, powF_pos hf hqp, e1, e2], mulC_digits s1 hd (by decide), by have := mulC_len sm out 0; omega, ⟨rfl, rfl⟩, rfl⟩⟩
          | succ k =>
            have k0 : (0 : Int) < ((k + 1 : Nat) : Int) := by omega
            have u1 : IntKind.wrap .i64 (k : Int) = (k : Int) := by rw [wrap_eq (by omega) (by omega)]
            have c1 := fun d lim hh => @c128n d lim hh sm b s1 hb
            by_cases ov : sm * b < 18446744073709551616
            · have hi : sm * b / 18446744073709551616 = 0 := by omega
              have lo : sm * b % 18446744073709551616 = sm * b := Nat.mod_eq_of_lt ov
              rw [grow_succ, if_pos ov] at hg
              have sp := Nat.mul_pos s0 h0
              generalize hP : sm * b = P at *
              rw [hi, lo] at c1
              simp [c1, u1, St.tidy, hd]
              exact ⟨k, by omega, by omega, P, sp, ov, hg, .inr (by omega), rfl, rfl⟩
            · have hi : sm * b / 18446744073709551616 ≠ 0 := by omega
              have hlt : k + 1 < q := by
                rcases hks with ⟨_, rfl⟩ | z
                · omega
                · exact z
              obtain ⟨e1, e2⟩ := hdone (by rw [grow_succ, if_neg ov]) hlt
              generalize hP : sm * b / 18446744073709551616 = P at *
              generalize hQ : sm * b % 18446744073709551616 = Q at *
              have cc := ct2 out hd (by omega) sm s1
              have hi' : ((P : Int) != 0) = true := by simp; omega
              simp [c1, hi, hi', cc, St.tidy]
              exact ⟨k + 1, by omega, by omega, ⟨f - 1, by omega, by omega, mulC out sm 0, by rw [← hp, powF_pos hf hqp, e1, e2], mulC_digits s1 hd (by decide), by have := mulC_len sm out 0; omega, ⟨rfl, rfl⟩, rfl⟩⟩
end N
end Go.Abs
