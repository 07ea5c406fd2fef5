/- Sorting: patterns broken by random numbers. -/
import Derived.Test.YtfbelnhibipndaaGreatDoorAbsZULM
import Derived.Sort.LotD5
import Derived.Laws.Bits64
import Derived.Laws.Bits64b
import Derived.Test.YtfbelnhibipndaaGreatDoorAbsZULN
set_option linter.unusedSimpArgs false
set_option linter.unusedVariables false
/- Sorting: patterns broken by random numbers. -/
namespace Go.Abs
namespace Z.U
set_option maxRecDepth 100000
set_option maxHeartbeats 0
open Go.Sort (ltInt swp xorNext xorNextN xorNext_toNat xorNextN_lt bitsLen breakStep breakPatterns)
theorem bin_shlU (a : Int) (k : IntKind) (n : Nat) (hn : n ≤ 64) : E.bin .shl (.int .u64 a) (.int k n) = some (.int .u64 (IntKind.wrap .u64 (a * 2 ^ n))) := by
  show semPure (binOp .shl 0 (.int .u64 a) (.int k n)) = _
  rw [show binOp .shl 0 (.int .u64 a) (.int k n) = Op.shift .shl .u64 a k n by simp [binOp]]
  have h : ¬ (n : Int) < 0 := by omega
  have m : min n IntKind.u64.bits = n := by simp [IntKind.bits]; omega
  simp [Op.shift, semPure, h, m]
  rfl
theorem bin_shrU (a : Int) (k : IntKind) (n : Nat) (hn : n ≤ 64) : E.bin .shr (.int .u64 a) (.int k n) = some (.int .u64 (a / 2 ^ n)) := by
  show semPure (binOp .shr 0 (.int .u64 a) (.int k n)) = _
  rw [show binOp .shr 0 (.int .u64 a) (.int k n) = Op.shift .shr .u64 a k n by simp [binOp]]
  have h : ¬ (n : Int) < 0 := by omega
  have m : min n IntKind.u64.bits = n := by simp [IntKind.bits]; omega
  have e : a.fdiv (2 ^ n) = a / 2 ^ n := Int.fdiv_eq_ediv_of_nonneg a (Int.le_of_lt (Int.pow_pos (by decide)))
  simp [Op.shift, semPure, h, m, e]
  rfl
theorem bin_xorU (a b : Int) : E.bin .xor (.int .u64 a) (.int .u64 b) = some (.int .u64 (bits .xor .u64 a b)) := by simp [E.bin, binOp, Op.intBits, semPure]; rfl
theorem bin_andU (a b : Int) : E.bin .and (.int .u64 a) (.int .u64 b) = some (.int .u64 (bits .and .u64 a b)) := by simp [E.bin, binOp, Op.intBits, semPure]; rfl
abbrev u64 (n : Int) : Value := .int .u64 n
def xH (h : Heap) (b : Nat) (x : Nat) : Heap := h.put b (some ⟨[u64 x], true⟩)
theorem xH_len {h : Heap} {b : Nat} (x : Nat) : List.length (xH h b x) = List.length h := Heap.length_put _ _ _
theorem c225 {D lim : Nat} {G : Heap} {p : Nat} (hp : p < G.length) {X : Nat} (hX : X < 18446744073709551616) : E.call (D + 1) lim 225 [pB p] (xH G p X) = some (u64 (xorNextN X : Nat), xH G p (xorNextN X)) := by
  have key : ∃ v h', E.call (D + 1) lim 225 [pB p] (xH G p X) = some (v, h') ∧ v = u64 (xorNextN X : Nat) ∧ h' = xH G p (xorNextN X) := by
    refine call_trunc (Q := fun v h' => v = u64 (xorNextN X : Nat) ∧ h' = xH G p (xorNextN X)) fn225 rfl (by simp [ef225]) ?_
    obtain ⟨A, hA⟩ : ∃ A : Nat, A = X ^^^ (X * 8192 % 18446744073709551616) := ⟨_, rfl⟩
    obtain ⟨B, hB⟩ : ∃ B : Nat, B = A ^^^ (A / 128) := ⟨_, rfl⟩
    obtain ⟨Z, hZ⟩ : ∃ C : Nat, C = B ^^^ (B * 131072 % 18446744073709551616) := ⟨_, rfl⟩
    have lA : A < 18446744073709551616 := by rw [hA]; exact Nat.xor_lt_two_pow (n := 64) (by omega) (by omega)
    have lB : B < 18446744073709551616 := by rw [hB]; exact Nat.xor_lt_two_pow (n := 64) (by omega) (by omega)
    have e1 : bits .xor .u64 (X : Int) (IntKind.u64.wrap ((X : Int) * 8192)) = (A : Int) := by
      rw [IntKind.wrap_u64, show ((X : Int) * 8192 % 18446744073709551616) = ((X * 8192 % 18446744073709551616 : Nat) : Int) by omega, bits_xor_u64_nat _ _ hX (by omega), hA]
    have e2 : bits .xor .u64 (A : Int) ((A : Int) / 128) = (B : Int) := by
      rw [show ((A : Int) / 128) = ((A / 128 : Nat) : Int) by omega, bits_xor_u64_nat _ _ lA (by omega), hB]
    have e3 : bits .xor .u64 (B : Int) (IntKind.u64.wrap ((B : Int) * 131072)) = (Z : Int) := by
      rw [IntKind.wrap_u64, show ((B : Int) * 131072 % 18446744073709551616) = ((B * 131072 % 18446744073709551616 : Nat) : Int) by omega, bits_xor_u64_nat _ _ lB (by omega), hZ]
    have hv : xorNextN X = Z := by unfold xorNextN; simp only []; rw [← hA, ← hB, ← hZ]
    rw [hv]
    have b13 := fun a => bin_shlU a .u64 13 (by decide)
    have b17 := fun a => bin_shlU a .u64 17 (by decide)
    have b7 := fun a => bin_shrU a .u64 7 (by decide)
    simp at b13 b17 b7
    have gt : ∀ x : Nat, (xH G p x).get p = some ⟨[u64 x], true⟩ := fun x => Heap.get_put_eq _ hp
    have ck : ∀ x : Nat, (xH G p x).cell p 0 = some (u64 x) := fun x => cell_get (gt x)
    have pk : ∀ x y : Nat, (xH G p x).put p (some ⟨[u64 y], true⟩) = xH G p y := fun x y => by unfold xH; rw [hput_put]
    have tk : ∀ x : Nat, List.take G.length (xH G p x) = xH G p x := fun x => List.take_of_length_le (by rw [xH_len]; exact Nat.le_refl _)
    have nx : ∀ x : Int, noAddr (u64 x) = true := fun _ => rfl
    simp [ef225, gt, ck, pk, tk, nx, bin_xorU, b13, b17, b7, e1, e2, e3, xH_len]
  obtain ⟨v, h', e1, rfl, rfl⟩ := key
  exact e1
theorem c224 {D lim : Nat} {h : Heap} {n : Nat} (h1 : 1 ≤ n) (hn : n ≤ 49) : E.call (D + 3) lim 224 [i64 (n : Int)] h = some (u64 ((1 <<< bitsLen n : Nat) : Int), h) := by
  have c199 : ∀ lim H, E.call (D + 1) lim 199 [u64 (n : Int)] H = some (i64 (bitsLen n : Nat), H) := fun lim H => by
    refine call1 fn199 rfl (by simp [ef199]) ?_
    have a1 : ¬ (4294967296 : Int) ≤ n := by omega
    have a2 : ¬ (65536 : Int) ≤ n := by omega
    have a3 : ¬ (256 : Int) ≤ n := by omega
    have w8 : IntKind.wrap .u8 (n : Int) = (n : Int) := by
      have e : IntKind.wrap .u8 (n : Int) = (n : Int) % 256 := by simp [IntKind.wrap, IntKind.bits, IntKind.signed]
      rw [e]; exact Int.emod_eq_of_lt (by omega) (by omega)
    simp [ef199, a1, a2, a3, w8]
    have hb := (Go.Sort.bitsLen_le_iff n 6).2 (by omega)
    refine ⟨UInt8.ofNat (bitsLen n), ?_, ?_⟩
    · clear hb w8 a1 a2 a3
      obtain ⟨k, hk⟩ : ∃ k : Fin 50, k.val = n := ⟨⟨n, by omega⟩, rfl⟩
      subst hk
      clear h1 hn
      revert k
      decide +kernel
    · have e : (UInt8.ofNat (bitsLen n)).toNat = bitsLen n := by simp; omega
      show IntKind.i64.wrap (IntKind.i64.wrap ((UInt8.ofNat (bitsLen n)).toNat : Int)) = _
      have w : IntKind.i64.wrap ((bitsLen n : Nat) : Int) = ((bitsLen n : Nat) : Int) := wrap_eq (by omega) (by omega)
      rw [e, w, w]
  have c157 : ∀ lim H, E.call (D + 2) lim 157 [u64 (n : Int)] H = some (i64 (bitsLen n : Nat), H) := fun lim H => by
    refine call1 fn157 rfl (by simp [ef157]) ?_
    simp [ef157, c199]
  have hb := (Go.Sort.bitsLen_le_iff n 6).2 (by omega)
  have w64 : IntKind.wrap .u64 (n : Int) = (n : Int) := wrapU2 (by omega) (by omega)
  refine call1 fn224 rfl (by simp [ef224]) ?_
  have bs := bin_shlU 1 .i64 (bitsLen n) (by omega)
  have e : IntKind.wrap .u64 (1 * 2 ^ bitsLen n) = ((1 <<< bitsLen n : Nat) : Int) := by
    have h : (2 : Nat) ^ bitsLen n ≤ 2 ^ 6 := Nat.pow_le_pow_right (by decide) hb
    rw [Int.one_mul, IntKind.wrap_u64, Nat.one_shiftLeft, show ((2 : Int) ^ bitsLen n) = ((2 ^ bitsLen n : Nat) : Int) by push_cast; rfl]
    generalize (2 : Nat) ^ bitsLen n = p at h
    omega
  rw [e] at bs
  generalize (1 <<< bitsLen n) = M at *
  simp [ef224, w64, c157, bs]
theorem c157 {D lim : Nat} {h : Heap} {n : Nat} (hn : n ≤ 49) : E.call (D + 2) lim 157 [u64 (n : Int)] h = some (i64 (bitsLen n : Nat), h) := by
  have c199 : ∀ lim H, E.call (D + 1) lim 199 [u64 (n : Int)] H = some (i64 (bitsLen n : Nat), H) := fun lim H => by
    refine call1 fn199 rfl (by simp [ef199]) ?_
    have a1 : ¬ (4294967296 : Int) ≤ n := by omega
    have a2 : ¬ (65536 : Int) ≤ n := by omega
    have a3 : ¬ (256 : Int) ≤ n := by omega
    have w8 : IntKind.wrap .u8 (n : Int) = (n : Int) := by
      have e : IntKind.wrap .u8 (n : Int) = (n : Int) % 256 := by simp [IntKind.wrap, IntKind.bits, IntKind.signed]
      rw [e]; exact Int.emod_eq_of_lt (by omega) (by omega)
    simp [ef199, a1, a2, a3, w8]
    have hb := (Go.Sort.bitsLen_le_iff n 6).2 (by omega)
    refine ⟨UInt8.ofNat (bitsLen n), ?_, ?_⟩
    · clear hb w8 a1 a2 a3
      obtain ⟨k, hk⟩ : ∃ k : Fin 50, k.val = n := ⟨⟨n, by omega⟩, rfl⟩
      subst hk
      clear hn
      revert k
      decide +kernel
    · have e : (UInt8.ofNat (bitsLen n)).toNat = bitsLen n := by simp; omega
      show IntKind.i64.wrap (IntKind.i64.wrap ((UInt8.ofNat (bitsLen n)).toNat : Int)) = _
      have w : IntKind.i64.wrap ((bitsLen n : Nat) : Int) = ((bitsLen n : Nat) : Int) := wrap_eq (by omega) (by omega)
      rw [e, w, w]
  refine call1 fn157 rfl (by simp [ef157]) ?_
  simp [ef157, c199]
def bpS (a L M i0 : Nat) (d : Array Int) : Nat → UInt64 × Array Int
  | 0 => (UInt64.ofNat L, d)
  | k + 1 => breakStep a L M (bpS a L M i0 d k) (i0 + k)
theorem bp_eq {a e : Nat} {d : Array Int} : breakPatterns d a e = if 8 ≤ e - a then (bpS a (e - a) (1 <<< bitsLen (e - a)) (a + (e - a) / 4 * 2 - 1) d 3).2 else d := rfl
theorem c192 {D lim : Nat} {h : Heap} {b : Nat} (hb : b < h.length) {a e : Nat} {d : Array Int} (hae : a < e) (he : e ≤ d.size) (hs : d.size ≤ 49) :
    E.call (D + 4) lim 192 [vS b d.size, i64 (a : Int), i64 (e : Int)] (sH h b d.toList) = some (.tuple #[], sH h b (breakPatterns d a e).toList) := by
  have key : ∃ v h', E.call (D + 4) lim 192 [vS b d.size, i64 (a : Int), i64 (e : Int)] (sH h b d.toList) = some (v, h') ∧ v = .tuple #[] ∧ h' = sH h b (breakPatterns d a e).toList := by
    refine call_trunc (Q := fun v h' => v = .tuple #[] ∧ h' = sH h b (breakPatterns d a e).toList) fn192 rfl (by simp [ef192]) ?_
    rw [bp_eq]
    obtain ⟨L, hL⟩ : ∃ L, L = e - a := ⟨_, rfl⟩
    have e1 : IntKind.wrap .i64 ((e : Int) - (a : Int)) = (L : Int) := by rw [wrap_eq (by omega) (by omega)]; omega
    rw [← hL]
    have tk0 : List.take h.length (sH h b d.toList) = sH h b d.toList := sH_take _
    by_cases g : 8 ≤ L
    case neg =>
      have gi : ¬ (8 : Int) ≤ L := by omega
      rw [if_neg g]
      simp [ef192, e1, gi, Int.not_le.1 gi, tk0]
    have gi : (8 : Int) ≤ L := by omega
    rw [if_pos g]
    have k137 := fun lim H => c224 (D := D) (lim := lim) (h := H) (n := L) (by omega) (by omega)
    have hM := Go.Sort.two_pow_bitsLen_le (n := L) (by omega)
    rw [← Nat.one_shiftLeft] at hM
    have hM0 : 1 ≤ 1 <<< bitsLen L := by rw [Nat.one_shiftLeft]; exact Nat.one_le_two_pow
    generalize (1 <<< bitsLen L) = M at *
    obtain ⟨m, hm⟩ : ∃ m, m = L / 4 := ⟨_, rfl⟩
    obtain ⟨m2, hm2⟩ : ∃ x, x = m * 2 := ⟨_, rfl⟩
    obtain ⟨i0, hi0⟩ : ∃ x, x = a + m2 - 1 := ⟨_, rfl⟩
    rw [← hm, ← hm2, ← hi0]
    obtain ⟨z, hz⟩ : ∃ z, z = a + m2 := ⟨_, rfl⟩
    have w64 : IntKind.wrap .u64 (L : Int) = (L : Int) := wrapU2 (by omega) (by omega)
    have e2 : IntKind.wrap .i64 (qdiv (L : Int) 4) = (m : Int) := by rw [qdiv_nn (by omega), wrap_eq (by omega) (by omega)]; omega
    have e3 : IntKind.wrap .i64 ((m : Int) * 2) = (m2 : Int) := by rw [wrap_eq (by omega) (by omega)]; omega
    have e4 : IntKind.wrap .i64 ((a : Int) + (m2 : Int)) = (z : Int) := by rw [wrap_eq (by omega) (by omega)]; omega
    have e5 : IntKind.wrap .i64 ((z : Int) - 1) = (i0 : Int) := by rw [wrap_eq (by omega) (by omega)]; omega
    have e6 : IntKind.wrap .i64 ((z : Int) + 1) = (z : Int) + 1 := wrap_eq (by omega) (by omega)
    have nL : noAddr (u64 (L : Int)) = true := rfl
    have sz : ∀ k, (bpS a L M i0 d k).2.size = d.size := fun k => by
      induction k with
      | zero => rfl
      | succ k ih => rw [bpS]; unfold breakStep; simp only [swp_size']; exact ih
    simp [ef192, e1, gi, Int.not_lt.2 gi, k137, w64, e2, e3, e4, e5, e6, nL, sH_push]
    have ap : ∀ (l : List Int) (L : Heap), sH h b l ++ L = sH (h ++ L) b l := fun l L => sH_app l L hb
    have hb2 : ∀ x : Option Blk, b < List.length (h ++ [x]) := fun x => by simp; omega
    have tk : ∀ (l : List Int) (x : Option Blk), List.take h.length (sH (h ++ [x]) b l) = sH h b l := fun l x => by rw [← ap, List.take_append_of_le_length (by simp), sH_take]
    have go : ∀ (l : List Int) (x : Option Blk), Heap.get (sH (h ++ [x]) b l) h.length = x := fun l x => by rw [← ap, hget_base0 (by simp)]; rfl
    have xe : ∀ (l : List Int) (r : Nat), xH (sH (h ++ [some ⟨[u64 0], true⟩]) b l) h.length r = sH (h ++ [some ⟨[u64 r], true⟩]) b l := fun l r => by
      unfold xH; rw [← ap, ← ap, hput_base0 (by simp)]; rfl
    refine wpC_loop (fun q st => ∃ k : Nat, q = 3 - k ∧ k ≤ 3 ∧ st = ⟨[(0, vS b d.size), (1, i64 (a : Int)), (6, i64 (L : Int)), (7, pB h.length), (8, u64 (M : Int)), (9, i64 ((i0 + k : Nat) : Int))], sH (h ++ [some ⟨[u64 ((bpS a L M i0 d k).1.toNat : Int)], true⟩]) b (bpS a L M i0 d k).2.toList⟩) 3 (by show 3 < 2 ^ 64; decide) ?_ ?_
    · simp [St.tidy, hb, sH_take, ap, tk, go]
      exact ⟨0, rfl, by omega, by omega, by
        have : (UInt64.ofNat L).toNat = L := by simp; omega
        show sH (h ++ [some ⟨[u64 (L : Int)], true⟩]) b d.toList = sH (h ++ [some ⟨[u64 ((UInt64.ofNat L).toNat : Int)], true⟩]) b d.toList
        rw [this]⟩
    · rintro q hq _ ⟨k, rfl, hk, rfl⟩
      obtain ⟨ik, hik⟩ : ∃ x, x = i0 + k := ⟨_, rfl⟩
      rw [← hik]
      by_cases k3 : k < 3
      · have le : ik ≤ z + 1 := by omega
        have lei : (ik : Int) ≤ (z : Int) + 1 := by omega
        have szk := sz k
        have nx : (bpS a L M i0 d (k + 1)) = breakStep a L M (bpS a L M i0 d k) ik := by rw [bpS, hik]
        have szk1 := sz (k + 1)
        obtain ⟨S', hS'⟩ : ∃ S', S' = bpS a L M i0 d (k + 1) := ⟨_, rfl⟩
        have fin : ∀ P : Prop, (∀ (j : Nat), j = k + 1 → bpS a L M i0 d j = S' → P) → P := fun P f => f _ rfl hS'.symm
        rw [← hS'] at nx szk1
        generalize bpS a L M i0 d k = S at *
        obtain ⟨r, dk⟩ := S
        obtain ⟨X, hX⟩ : ∃ X, X = r.toNat := ⟨_, rfl⟩
        have lX : X < 18446744073709551616 := by rw [hX]; exact r.toNat_lt
        obtain ⟨X', hX'⟩ : ∃ X', X' = xorNextN X := ⟨_, rfl⟩
        have lX' : X' < 18446744073709551616 := by rw [hX']; exact xorNextN_lt X lX
        have hr' : (xorNext r).toNat = X' := by rw [xorNext_toNat, hX', hX]
        obtain ⟨M1, hM1⟩ : ∃ x, x = M - 1 := ⟨_, rfl⟩
        obtain ⟨O0, hO0⟩ : ∃ x, x = X' &&& M1 := ⟨_, rfl⟩
        have lO0 : O0 ≤ M1 := by rw [hO0]; exact Nat.and_le_right
        obtain ⟨O, hO⟩ : ∃ x, x = if L ≤ O0 then O0 - L else O0 := ⟨_, rfl⟩
        have lO : O < L := by rw [hO]; split <;> omega
        obtain ⟨ao, hao⟩ : ∃ x, x = a + O := ⟨_, rfl⟩
        unfold breakStep at nx
        simp only [hr', ← hM1, ← hO0, ge_iff_le, ← hO, ← hao] at nx
        simp only at szk
        have k138 := fun lim => c225 (D := D + 2) (lim := lim) (G := sH (h ++ [some ⟨[u64 0], true⟩]) b dk.toList) (p := h.length) (by simp) lX
        simp only [xe, ← hX'] at k138
        have wM : IntKind.wrap .u64 ((M : Int) - 1) = (M1 : Int) := by rw [wrapU2 (by omega) (by omega)]; omega
        have ba : bits .and .u64 (X' : Int) (M1 : Int) = (O0 : Int) := by rw [bits_and_u64_nat _ _ lX' (by omega), ← hO0]
        have wO0 : IntKind.wrap .i64 (O0 : Int) = (O0 : Int) := wrap_eq (by omega) (by omega)
        have wao : IntKind.wrap .i64 ((a : Int) + (O : Int)) = (ao : Int) := by rw [wrap_eq (by omega) (by omega)]; omega
        have wik := w1 (i := ik) (by omega)
        obtain ⟨p1, p2, p3, p4, p5, p6⟩ := ix (d := dk) (k := ik) (by omega)
        obtain ⟨q1, q2, q3, q4, q5, q6⟩ := ix (d := dk) (k := ao) (by omega)
        rw [szk] at p1 p4 p5 q1 q4 q5
        have cl := cI_len' dk
        rw [szk] at cl
        have sw := swp_list (d := dk) ik ao
        have nx1 : noAddr (i64 dk[ik]!) = true := rfl
        have nx2 : noAddr (i64 dk[ao]!) = true := rfl
        have cb := fun (x : Option Blk) (o : Nat) => sH_cell (hb2 x) dk.toList o
        have gb := fun (x : Option Blk) (l : List Int) => sH_get (hb2 x) l
        have S1 : S'.1.toNat = X' := by rw [nx]; exact hr'
        have S2 : S'.2 = swp dk ik ao := by rw [nx]
        generalize hn : d.size = n at *
        simp only [← hX]
        by_cases ge : L ≤ O0
        · have gei : (L : Int) ≤ O0 := by omega
          rw [if_pos ge] at hO
          have wO : IntKind.wrap .i64 ((O0 : Int) - (L : Int)) = (O : Int) := by rw [wrap_eq (by omega) (by omega)]; omega
          simp [e2, e3, e4, e6, lei, le, k138, wM, bin_andU, ba, wO0, ge, gei, wO, wao, wik, p1, p2, p3, p4, p5, q1, q2, q3, q4, q5, cb, gb, sH_put, cl, cI_set, sw, nx1, nx2, St.tidy, hb, ap, tk, go]
          exact ⟨by omega, 3 - (k + 1), by omega, k + 1, rfl, by omega, by omega, by rw [← hS', S1, S2]⟩
        · have gei : ¬ (L : Int) ≤ O0 := by omega
          rw [if_neg ge] at hO
          subst hO
          simp [e2, e3, e4, e6, lei, le, k138, wM, bin_andU, ba, wO0, ge, gei, wao, wik, p1, p2, p3, p4, p5, q1, q2, q3, q4, q5, cb, gb, sH_put, cl, cI_set, sw, nx1, nx2, St.tidy, hb, ap, tk, go]
          exact ⟨by omega, 3 - (k + 1), by omega, k + 1, rfl, by omega, by omega, by rw [← hS', S1, S2]⟩
      · obtain rfl : k = 3 := by omega
        have le : ¬ ik ≤ z + 1 := by omega
        have lei : ¬ (ik : Int) ≤ (z : Int) + 1 := by omega
        simp [e2, e3, e4, e6, lei, le, Int.not_le.1 lei, tk]
  obtain ⟨v, h', e1, rfl, rfl⟩ := key
  exact e1
end Z.U
end Go.Abs
/- Sorting: the recursion. -/
namespace Go.Abs
namespace Z.U
set_option maxRecDepth 100000
set_option maxHeartbeats 0
open Go.Sort (ltInt swp insertionSort heapSort breakPatterns choosePivot reverseRange partialInsertionSort partition partitionEqual partEqLoop scanUp scanDown scanSorted pdq Hint swo_ltInt)
theorem pdq_ins {d : Array Int} {a e lim : Nat} {wb wp : Bool} (h : e - a ≤ 12) : pdq ltInt d a e lim wb wp = insertionSort ltInt d a e := by rw [pdq, if_pos h]
theorem pdq_heap {d : Array Int} {a e : Nat} {wb wp : Bool} (h : ¬ e - a ≤ 12) : pdq ltInt d a e 0 wb wp = heapSort ltInt d a e := by rw [pdq, if_neg h, if_pos rfl]
theorem pdq_step {d d1 d2 : Array Int} {a e lim lim1 piv : Nat} {wb wp : Bool} {c : Nat × Hint} {hint : Hint} {pi : Array Int × Bool} (h : ¬ e - a ≤ 12) (hl : lim ≠ 0)
    (hd1 : d1 = if (!wb) = true then breakPatterns d a e else d) (hl1 : lim1 = if (!wb) = true then lim - 1 else lim) (hc : c = choosePivot ltInt d1 a e) (hd2 : d2 = if c.2 = .decreasing then reverseRange d1 a e else d1)
    (hp : piv = if c.2 = .decreasing then (e - 1) - (c.1 - a) else c.1) (hh : hint = if c.2 = .decreasing then Hint.increasing else c.2) (hpi : pi = if (wb && wp && decide (hint = .increasing)) = true then partialInsertionSort ltInt d2 a e else (d2, false)) :
    pdq ltInt d a e lim wb wp = if pi.2 = true then pi.1 else if (decide (a > 0) && !ltInt pi.1[a - 1]! pi.1[piv]!) = true then
      (if a < (partitionEqual ltInt pi.1 a e piv).1 ∧ (partitionEqual ltInt pi.1 a e piv).1 ≤ e then pdq ltInt (partitionEqual ltInt pi.1 a e piv).2 (partitionEqual ltInt pi.1 a e piv).1 e lim1 wb wp else (partitionEqual ltInt pi.1 a e piv).2)
    else (if a ≤ (partition ltInt pi.1 a e piv).1 ∧ (partition ltInt pi.1 a e piv).1 < e then
      (if (partition ltInt pi.1 a e piv).1 - a < e - (partition ltInt pi.1 a e piv).1 then
        pdq ltInt (pdq ltInt (partition ltInt pi.1 a e piv).2.2 a (partition ltInt pi.1 a e piv).1 lim1 true true) ((partition ltInt pi.1 a e piv).1 + 1) e lim1 (decide ((partition ltInt pi.1 a e piv).1 - a ≥ (e - a) / 8)) (partition ltInt pi.1 a e piv).2.1
      else pdq ltInt (pdq ltInt (partition ltInt pi.1 a e piv).2.2 ((partition ltInt pi.1 a e piv).1 + 1) e lim1 true true) a (partition ltInt pi.1 a e piv).1 lim1 (decide (e - (partition ltInt pi.1 a e piv).1 ≥ (e - a) / 8)) (partition ltInt pi.1 a e piv).2.1)
      else (partition ltInt pi.1 a e piv).2.2) := by
  subst hpi hh hp hd2 hc hl1 hd1
  rw [pdq, if_neg h, if_neg hl]
  rfl
theorem sU_rng {p : Int → Bool} {d : Array Int} {j : Nat} : ∀ (k i : Nat), j + 1 - i = k → i ≤ j + 1 → i ≤ scanUp p d j i ∧ scanUp p d j i ≤ j + 1
  | 0, i, hk, hi => by rw [sU_stop (by omega)]; omega
  | k + 1, i, hk, hi => by
    by_cases z : p d[i]! = true
    · rw [sU_go (by omega) z]
      have := sU_rng (p := p) (d := d) (j := j) k (i + 1) (by omega) (by omega); omega
    · rw [sU_stop (fun y => z y.2)]; omega
theorem sD_rng {p : Int → Bool} {d : Array Int} {i : Nat} (hi : 1 ≤ i) : ∀ (j : Nat), i ≤ j + 1 → scanDown p d i j ≤ j ∧ i ≤ scanDown p d i j + 1
  | 0, h => by rw [show scanDown p d i 0 = 0 from rfl]; omega
  | j + 1, h => by
    by_cases z : i ≤ j + 1 ∧ p d[j + 1]! = true
    · rw [sD_go hi z.1 z.2]
      have := sD_rng (p := p) (d := d) hi j z.1
      simp only [Nat.add_sub_cancel]; omega
    · rw [sD_stop z]; omega
theorem pE_rng {a : Nat} : ∀ (k i j : Nat) (d : Array Int), j + 1 - i ≤ k → 1 ≤ i → i ≤ j + 1 → i ≤ (partEqLoop ltInt a i j d).1 ∧ (partEqLoop ltInt a i j d).1 ≤ j + 1 ∧ (partEqLoop ltInt a i j d).2.size = d.size
  | k, i, j, d, hk, h1, hi => by
    obtain ⟨r, hr⟩ : ∃ r, scanUp (fun x => !ltInt d[a]! x) d j i = r := ⟨_, rfl⟩
    obtain ⟨t, ht⟩ : ∃ t, scanDown (fun x => ltInt d[a]! x) d r j = t := ⟨_, rfl⟩
    obtain ⟨a1, a2⟩ := sU_rng (p := fun x => !ltInt d[a]! x) (d := d) (j := j) _ i rfl hi
    rw [hr] at a1 a2
    obtain ⟨b1, b2⟩ := sD_rng (p := fun x => ltInt d[a]! x) (d := d) (i := r) (by omega) j (by omega)
    rw [ht] at b1 b2
    by_cases g : t < r
    · rw [pE_stop hr ht g]; exact ⟨a1, a2, rfl⟩
    · rw [pE_go hr ht g (by omega)]
      cases k with
      | zero => omega
      | succ k =>
        by_cases z : r = t
        · -- both scans stop at one place: one of them would have gone on
          by_cases y : r + 1 ≤ (t - 1) + 1
          · omega
          · subst z
            have st : scanUp (fun x => !ltInt (swp d r r)[a]! x) (swp d r r) (r - 1) (r + 1) = r + 1 := sU_stop (by omega)
            have sd : scanDown (fun x => ltInt (swp d r r)[a]! x) (swp d r r) (r + 1) (r - 1) = r - 1 := sD_stop (by omega)
            rw [pE_stop st sd (by omega)]
            exact ⟨by show i ≤ r + 1; omega, by show r + 1 ≤ j + 1; omega, swp_size' _ _⟩
        · have ih := pE_rng (a := a) k (r + 1) (t - 1) (swp d r t) (by omega) (by omega) (by omega)
          rw [swp_size'] at ih
          omega
theorem pEq_rng {a e piv : Nat} {d : Array Int} (h1 : a < e) : a < (partitionEqual ltInt d a e piv).1 ∧ (partitionEqual ltInt d a e piv).1 ≤ e ∧ (partitionEqual ltInt d a e piv).2.size = d.size := by
  have := pE_rng (a := a) _ (a + 1) (e - 1) (swp d a piv) (Nat.le_refl _) (by omega) (by omega)
  rw [swp_size'] at this
  unfold partitionEqual
  omega
theorem c156s {D lim : Nat} {h : Heap} {b : Nat} (hb : b < h.length) {a e l : Nat} {d : Array Int} (hae : a ≤ e) (he : e ≤ d.size) (hs : d.size ≤ 49) (h12 : e - a ≤ 12) :
    E.call (D + 4) lim 156 [vS b d.size, i64 (a : Int), i64 (e : Int), i64 (l : Int)] (sH h b d.toList) = some (.tuple #[], sH h b (pdq ltInt d a e l true true).toList) := by
  rw [pdq_ins h12]
  have key : ∃ v h', E.call (D + 4) lim 156 [vS b d.size, i64 (a : Int), i64 (e : Int), i64 (l : Int)] (sH h b d.toList) = some (v, h') ∧ v = .tuple #[] ∧ h' = sH h b (insertionSort ltInt d a e).toList := by
    refine call_trunc (Q := fun v h' => v = .tuple #[] ∧ h' = sH h b (insertionSort ltInt d a e).toList) fn156 rfl (by simp [ef156]) ?_
    have k126 := fun lim => c190 (D := D) (lim := lim) hb hae he (by omega)
    obtain ⟨L, hL⟩ : ∃ L, L = e - a := ⟨_, rfl⟩
    have e1 : IntKind.wrap .i64 ((e : Int) - (a : Int)) = (L : Int) := by rw [wrap_eq (by omega) (by omega)]; omega
    have le : (L : Int) ≤ 12 := by omega
    simp [ef156]
    refine wpC_loop (fun q st => q = 0 ∧ st = ⟨[(0, vS b d.size), (1, i64 (a : Int)), (2, i64 (e : Int)), (3, i64 (l : Int)), (8, .bool true), (9, .bool true)], sH h b d.toList⟩) 0 (by show 0 < 2 ^ 64; omega) ?_ ?_
    · simp [St.tidy, hb, sH_take]
    · rintro q hq _ ⟨rfl, rfl⟩
      simp [e1, le, k126, sH_take]
  obtain ⟨v, h', e1, rfl, rfl⟩ := key
  exact e1
end Z.U
end Go.Abs
/- Sorting: the recursion, walked. -/
namespace Go.Abs
namespace Z.U
set_option maxRecDepth 100000
set_option maxHeartbeats 0
set_option linter.unusedSimpArgs false
open Go.Sort (ltInt swp insertionSort heapSort breakPatterns choosePivot reverseRange partialInsertionSort partition partitionEqual pdq Hint swo_ltInt)
theorem seq_assoc {C : Ctx} {a b t : ECode} {st : St} {K : Ex → St → Prop} : wpC C (.seq a (.seq b t)) st K = wpC C (.seq (.seq a b) t) st K := by
  rw [wpC_seq, wpC_seq, wpC_seq]
  congr 1
  funext e s
  cases e with
  | normal => rw [KSeq_normal, KSeq_normal, wpC_seq]
  | ret => rfl
  | exit j => rfl
theorem hint_cases {c : Hint} : hintN c = if c = .decreasing then 2 else if c = .increasing then 1 else 0 := by cases c <;> rfl
theorem c156 {D lim : Nat} {h : Heap} {b : Nat} (hb : b < h.length) {a e l : Nat} {d : Array Int} (hae : a ≤ e) (he : e ≤ d.size) (hs : d.size ≤ 24) (hl : l ≤ 64) :
    E.call (D + 6) lim 156 [vS b d.size, i64 (a : Int), i64 (e : Int), i64 (l : Int)] (sH h b d.toList) = some (.tuple #[], sH h b (pdq ltInt d a e l true true).toList) := by
  have key : ∃ v h', E.call (D + 6) lim 156 [vS b d.size, i64 (a : Int), i64 (e : Int), i64 (l : Int)] (sH h b d.toList) = some (v, h') ∧ v = .tuple #[] ∧ h' = sH h b (pdq ltInt d a e l true true).toList := by
    refine call_trunc (Q := fun v h' => v = .tuple #[] ∧ h' = sH h b (pdq ltInt d a e l true true).toList) fn156 rfl (by simp [ef156]) ?_
    generalize hR : pdq ltInt d a e l true true = R
    generalize hn : d.size = n at *
    simp [ef156]
    refine wpC_loop (fun q st => ∃ (a e l : Nat) (wb wp : Bool) (d : Array Int), q = e - a ∧ a ≤ e ∧ e ≤ n ∧ l ≤ 64 ∧ d.size = n ∧ pdq ltInt d a e l wb wp = R ∧ st = ⟨[(0, vS b n), (1, i64 (a : Int)), (2, i64 (e : Int)), (3, i64 (l : Int)), (8, .bool wb), (9, .bool wp)], sH h b d.toList⟩) (e - a) (by show e - a < 2 ^ 64; omega) ?_ ?_
    · simp [St.tidy, hb, sH_take]
      exact ⟨a, e, rfl, hae, he, l, hl, d, hn, by simpa using hR, ⟨rfl, rfl, rfl⟩, rfl⟩
    · rintro q hq _ ⟨a, e, l, wb, wp, d, rfl, hae, he, hl, hd, hR, rfl⟩
      obtain ⟨L, hL⟩ : ∃ L, L = e - a := ⟨_, rfl⟩
      have e1 : IntKind.wrap .i64 ((e : Int) - (a : Int)) = (L : Int) := by rw [wrap_eq (by omega) (by omega)]; omega
      have tk := fun x => sH_take (h := h) (b := b) x
      by_cases h12 : e - a ≤ 12
      · have le : (L : Int) ≤ 12 := by omega
        have k126 := fun lim => c190 (D := D + 2) (lim := lim) hb (d := d) hae (by omega) (by omega)
        rw [pdq_ins h12] at hR
        subst hR
        rw [hd] at k126
        simp [e1, le, k126, tk]
      have le : ¬ (L : Int) ≤ 12 := by omega
      by_cases l0 : l = 0
      · subst l0
        have k127 := fun lim => c191 (D := D + 1) (lim := lim) hb (d := d) (a := a) (e := e) (by omega) (by omega) (by omega)
        rw [pdq_heap h12] at hR
        subst hR
        rw [hd] at k127
        simp [e1, le, Int.not_le.1 le, k127, tk]
      have l0i : ¬ (l : Int) = 0 := by omega
      have st := pdq_step (d := d) (a := a) (e := e) (lim := l) (wb := wb) (wp := wp) h12 l0 rfl rfl rfl rfl rfl rfl rfl
      obtain ⟨d1, hd1⟩ : ∃ x, x = if (!wb) = true then breakPatterns d a e else d := ⟨_, rfl⟩
      obtain ⟨l1, hl1⟩ : ∃ x, x = if (!wb) = true then l - 1 else l := ⟨_, rfl⟩
      simp only [← hd1, ← hl1] at st
      obtain ⟨c, hc⟩ : ∃ x, x = choosePivot ltInt d1 a e := ⟨_, rfl⟩
      simp only [← hc] at st
      obtain ⟨d2, hd2⟩ : ∃ x, x = if c.2 = .decreasing then reverseRange d1 a e else d1 := ⟨_, rfl⟩
      obtain ⟨pv, hpv⟩ : ∃ x, x = if c.2 = .decreasing then (e - 1) - (c.1 - a) else c.1 := ⟨_, rfl⟩
      obtain ⟨hi, hhi⟩ : ∃ x, x = if c.2 = .decreasing then Hint.increasing else c.2 := ⟨_, rfl⟩
      simp only [← hd2, ← hpv, ← hhi] at st
      obtain ⟨pi, hpi⟩ : ∃ x, x = if (wb && wp && decide (hi = .increasing)) = true then partialInsertionSort ltInt d2 a e else (d2, false) := ⟨_, rfl⟩
      simp only [← hpi] at st
      have s1 : d1.size = n := by
        rw [hd1]; split
        · rw [(Go.Sort.breakPatterns_holds d a e (by omega) (by omega)).1, hd]
        · exact hd
      have s2 : d2.size = n := by
        rw [hd2]; split
        · rw [(Go.Sort.reverseRange_holds d1 a e (by omega) (by omega)).1, s1]
        · exact s1
      have pi1 : pi.1 = d2 := by
        rw [hpi]; split
        · unfold partialInsertionSort Go.Sort.partialIns
          simp only []
          split
          · rfl
          · rw [if_pos (by omega)]
        · rfl
      have cr := Go.Sort.choosePivot_holds ltInt d1 a e (by omega)
      rw [← hc] at cr
      have pvr : a ≤ pv ∧ pv < e := by rw [hpv]; split <;> omega
      rw [pi1] at st
      rw [hR] at st
      -- the program
      rw [wpC_block, seq_assoc, seq_assoc, seq_assoc, seq_assoc, seq_assoc, seq_assoc, wpC_seq]
      have k128 := fun lim => c192 (D := D + 1) (lim := lim) hb (d := d) (a := a) (e := e) (by omega) (by omega) (by omega)
      have k129 := fun lim => c193 (D := D) (lim := lim) hb (d := d1) (a := a) (e := e) (by omega) (by omega) (by omega)
      have k130 := fun lim => c194 (D := D + 4) (lim := lim) hb (d := d1) (a := a) (e := e) (by omega) (by omega) (by omega)
      have k131 := fun lim => c195 (D := D + 2) (lim := lim) hb (d := d2) (a := a) (e := e) (by omega) (by omega) (by omega)
      rw [hd] at k128
      rw [s1, ← hc, hint_cases] at k129
      rw [s1] at k130
      rw [s2] at k131
      have w1 : IntKind.wrap .i64 ((l : Int) - 1) = ((l - 1 : Nat) : Int) := wm1 (by omega) (by omega)
      have w2 : IntKind.wrap .i64 ((e : Int) - 1) = ((e - 1 : Nat) : Int) := wm1 (by omega) (by omega)
      have w3 : IntKind.wrap .i64 ((c.1 : Int) - (a : Int)) = ((c.1 - a : Nat) : Int) := by rw [wrap_eq (by omega) (by omega)]; omega
      have w4 : IntKind.wrap .i64 (((e - 1 : Nat) : Int) - ((c.1 - a : Nat) : Int)) = ((e - 1 - (c.1 - a) : Nat) : Int) := by rw [wrap_eq (by omega) (by omega)]; omega
      refine wpC_mono (Q := fun ex st => (ex = .ret ∧ st.h = sH h b R.toList) ∨ (ex = .normal ∧ pi.2 = false ∧ st.h = sH h b d2.toList ∧ st.f.get 0 = some (vS b n) ∧ st.f.get 1 = some (i64 (a : Int)) ∧ st.f.get 2 = some (i64 (e : Int)) ∧ st.f.get 3 = some (i64 (l1 : Int)) ∧ st.f.get 8 = some (.bool wb) ∧ st.f.get 9 = some (.bool wp) ∧ st.f.get 10 = some (i64 (L : Int)) ∧ st.f.get 11 = some (i64 (pv : Int)))) ?_ ?_
      · cases wb with
        | false =>
          simp only [Bool.not_false, if_true] at hd1 hl1
          simp only [Bool.false_and, Bool.false_eq_true, if_false] at hpi
          subst hpi
          rw [← hd1] at k128
          rw [← hl1] at w1
          by_cases cd : c.2 = .decreasing
          · rw [if_pos cd] at hd2 hpv hhi
            rw [if_pos cd] at k129
            rw [← hd2] at k130
            rw [← hpv] at w4
            simp [e1, le, Int.not_le.1 le, l0, l0i, k128, k129, k130, w1, w2, w3, w4]
          · rw [if_neg cd] at hd2 hpv hhi
            subst hd2 hpv
            rw [if_neg cd] at k129
            by_cases ci : c.2 = .increasing
            · rw [if_pos ci] at k129
              simp [e1, le, Int.not_le.1 le, l0, l0i, k128, k129, w1]
            · rw [if_neg ci] at k129
              simp [e1, le, Int.not_le.1 le, l0, l0i, k128, k129, w1]
        | true =>
          simp only [Bool.not_true, Bool.false_eq_true, if_false] at hd1 hl1
          subst hd1 hl1
          cases wp with
          | false =>
            simp only [Bool.and_false, Bool.false_and, Bool.false_eq_true, if_false] at hpi
            subst hpi
            by_cases cd : c.2 = .decreasing
            · rw [if_pos cd] at hd2 hpv hhi
              rw [if_pos cd] at k129
              rw [← hd2] at k130
              rw [← hpv] at w4
              simp [e1, le, Int.not_le.1 le, l0, l0i, k129, k130, w2, w3, w4]
            · rw [if_neg cd] at hd2 hpv hhi
              subst hd2 hpv
              rw [if_neg cd] at k129
              by_cases ci : c.2 = .increasing
              · rw [if_pos ci] at k129
                simp [e1, le, Int.not_le.1 le, l0, l0i, k129]
              · rw [if_neg ci] at k129
                simp [e1, le, Int.not_le.1 le, l0, l0i, k129]
          | true =>
            simp only [Bool.true_and, decide_eq_true_eq] at hpi
            by_cases cd : c.2 = .decreasing
            · rw [if_pos cd] at hd2 hpv hhi
              rw [if_pos cd] at k129
              rw [if_pos hhi] at hpi
              rw [← hpi, pi1] at k131
              rw [← hd2] at k130
              rw [← hpv] at w4
              by_cases z : pi.2 = true
              · rw [if_pos z] at st
                subst st
                simp [e1, le, Int.not_le.1 le, l0, l0i, k129, k130, k131, w2, w3, w4, z]
              · have z : pi.2 = false := by simpa using z
                simp [e1, le, Int.not_le.1 le, l0, l0i, k129, k130, k131, w2, w3, w4, z]
            · rw [if_neg cd] at hd2 hpv hhi
              subst hd2 hpv
              rw [if_neg cd] at k129
              by_cases ci : c.2 = .increasing
              · rw [if_pos ci] at k129
                rw [if_pos (by rw [hhi]; exact ci)] at hpi
                rw [← hpi, pi1] at k131
                by_cases z : pi.2 = true
                · rw [if_pos z] at st
                  subst st
                  simp [e1, le, Int.not_le.1 le, l0, l0i, k129, k131, z]
                · have z : pi.2 = false := by simpa using z
                  simp [e1, le, Int.not_le.1 le, l0, l0i, k129, k131, z]
              · rw [if_neg ci] at k129
                rw [if_neg (by rw [hhi]; exact ci)] at hpi
                have z : pi.2 = false := by rw [hpi]
                simp [e1, le, Int.not_le.1 le, l0, l0i, k129, z]
      · rintro ex ⟨f, hh⟩ (⟨rfl, rfl⟩ | ⟨rfl, z, rfl, g0, g1, g2, g3, g8, g9, g10, g11⟩)
        · simp [tk]
        · simp only at g0 g1 g2 g3 g8 g9 g10 g11
          rw [if_neg (by rw [z]; decide)] at st
          obtain ⟨p1, p2, p3, p4, p5, p6⟩ := ix (d := d2) (k := pv) (by omega)
          rw [s2] at p1 p4 p5
          have l164 : l1 ≤ 64 := by rw [hl1]; split <;> omega
          have k132 := fun lim => c196 (D := D + 2) (lim := lim) hb (d := d2) (a := a) (e := e) (p := pv) (by omega) (by omega) (by omega) (by omega)
          have k133 := fun lim => c197 (D := D + 2) (lim := lim) hb (d := d2) (a := a) (e := e) (p := pv) (by omega) (by omega) (by omega) (by omega)
          rw [s2] at k132 k133
          have f132 := pEq_rng (a := a) (e := e) (piv := pv) (d := d2) (by omega)
          obtain ⟨f1, f2, f3, _, _⟩ := Go.Sort.partition_holds ltInt swo_ltInt d2 a e pv (by omega) (by omega) (by omega)
          have f3 := f3.1
          rw [s2] at f132 f3
          by_cases q7 : (decide (a > 0) && !ltInt d2[a - 1]! d2[pv]!) = true
          · rw [if_pos q7] at st
            rw [Bool.and_eq_true, decide_eq_true_eq] at q7
            obtain ⟨a0, lt⟩ := q7
            have lt : ltInt d2[a - 1]! d2[pv]! = false := by simpa using lt
            have a0i : (0 : Int) < a := by omega
            obtain ⟨q1, q2, q3, q4, q5, q6⟩ := ix (d := d2) (k := a - 1) (by omega)
            rw [s2] at q1 q4 q5
            have wm := wm1 (i := a) (by omega) (by omega)
            generalize partitionEqual ltInt d2 a e pv = E4 at *
            obtain ⟨md, d4⟩ := E4
            simp only at f132 k132 st
            rw [if_pos ⟨f132.1, f132.2.1⟩] at st
            simp [-Bool.exists_bool, g0, g1, g2, g3, g8, g9, g10, g11, a0, a0i, p1, p2, p3, p4, p5, q1, q2, q3, q4, q5, wm, c159, lt, k132, sH_cell hb, St.tidy, hb, sH_take]
            exact ⟨e - md, by omega, md, e, rfl, by omega, he, l1, l164, wb, wp, d4, f132.2.2, st.symm, ⟨rfl, rfl, rfl, rfl, rfl⟩, rfl⟩
          · rw [if_neg q7] at st
            generalize partition ltInt d2 a e pv = E4 at *
            obtain ⟨md, apt, d4⟩ := E4
            simp only at f1 f2 f3 k133 st
            rw [if_pos ⟨f1, f2⟩] at st
            obtain ⟨lf, hlf⟩ : ∃ x, x = md - a := ⟨_, rfl⟩
            obtain ⟨rg, hrg⟩ : ∃ x, x = e - md := ⟨_, rfl⟩
            obtain ⟨bl, hbl⟩ : ∃ x, x = (e - a) / 8 := ⟨_, rfl⟩
            have y1 : IntKind.wrap .i64 ((md : Int) - (a : Int)) = (lf : Int) := by rw [wrap_eq (by omega) (by omega)]; omega
            have y2 : IntKind.wrap .i64 ((e : Int) - (md : Int)) = (rg : Int) := by rw [wrap_eq (by omega) (by omega)]; omega
            have y3 : IntKind.wrap .i64 (qdiv (L : Int) 8) = (bl : Int) := by rw [qdiv_nn (by omega), wrap_eq (by omega) (by omega)]; omega
            obtain ⟨m1, hm1⟩ : ∃ x, x = md + 1 := ⟨_, rfl⟩
            have y4 : IntKind.wrap .i64 ((md : Int) + 1) = (m1 : Int) := by rw [wrap_eq (by omega) (by omega)]; omega
            rw [← hlf, ← hrg, ← hbl, ← hm1] at st
            by_cases lr : lf < rg
            · have lri : (lf : Int) < rg := by omega
              rw [if_pos lr] at st
              have k120 := fun lim => c156s (D := D + 1) (lim := lim) hb (d := d4) (a := a) (e := md) (l := l1) (by omega) (by omega) (by omega) (by omega)
              rw [f3] at k120
              have s5 : (pdq ltInt d4 a md l1 true true).size = n := by rw [pdq_ins (by omega), (Go.Sort.insertionSort_holds (lt := ltInt) swo_ltInt d4 a md (by omega) (by omega)).1.1, f3]
              generalize pdq ltInt d4 a md l1 true true = d5 at *
              by_cases a0 : 0 < a
              · have a0i : (0 : Int) < a := by omega
                obtain ⟨q1, q2, q3, q4, q5, q6⟩ := ix (d := d2) (k := a - 1) (by omega)
                rw [s2] at q1 q4 q5
                have wm := wm1 (i := a) (by omega) (by omega)
                have lt : ltInt d2[a - 1]! d2[pv]! = true := by simpa [a0] using q7
                simp [-Bool.exists_bool, g0, g1, g2, g3, g8, g9, g10, g11, a0, a0i, p1, p2, p3, p4, p5, q1, q2, q3, q4, q5, wm, c159, lt, k133, y1, y2, y3, y4, lr, lri, k120, sH_cell hb, St.tidy, hb, sH_take]
                exact ⟨e - m1, by omega, m1, e, rfl, by omega, he, l1, l164, decide (lf ≥ bl), apt, d5, s5, st.symm, ⟨rfl, rfl, rfl, by simp, rfl⟩, rfl⟩
              · have a0i : ¬ (0 : Int) < a := by omega
                simp [-Bool.exists_bool, g0, g1, g2, g3, g8, g9, g10, g11, a0, a0i, k133, y1, y2, y3, y4, lr, lri, k120, sH_cell hb, St.tidy, hb, sH_take]
                exact ⟨e - m1, by omega, m1, e, rfl, by omega, he, l1, l164, decide (lf ≥ bl), apt, d5, s5, st.symm, ⟨rfl, rfl, rfl, by simp, rfl⟩, rfl⟩
            · have lri : ¬ (lf : Int) < rg := by omega
              rw [if_neg lr] at st
              have k120 := fun lim => c156s (D := D + 1) (lim := lim) hb (d := d4) (a := m1) (e := e) (l := l1) (by omega) (by omega) (by omega) (by omega)
              rw [f3] at k120
              have s5 : (pdq ltInt d4 m1 e l1 true true).size = n := by rw [pdq_ins (by omega), (Go.Sort.insertionSort_holds (lt := ltInt) swo_ltInt d4 m1 e (by omega) (by omega)).1.1, f3]
              generalize pdq ltInt d4 m1 e l1 true true = d5 at *
              by_cases a0 : 0 < a
              · have a0i : (0 : Int) < a := by omega
                obtain ⟨q1, q2, q3, q4, q5, q6⟩ := ix (d := d2) (k := a - 1) (by omega)
                rw [s2] at q1 q4 q5
                have wm := wm1 (i := a) (by omega) (by omega)
                have lt : ltInt d2[a - 1]! d2[pv]! = true := by simpa [a0] using q7
                simp [-Bool.exists_bool, g0, g1, g2, g3, g8, g9, g10, g11, a0, a0i, p1, p2, p3, p4, p5, q1, q2, q3, q4, q5, wm, c159, lt, k133, y1, y2, y3, y4, lr, lri, Int.not_lt.1 lri, k120, sH_cell hb, St.tidy, hb, sH_take]
                exact ⟨md - a, by omega, a, md, rfl, by omega, by omega, l1, l164, decide (rg ≥ bl), apt, d5, s5, st.symm, ⟨rfl, rfl, rfl, by simp, rfl⟩, rfl⟩
              · have a0i : ¬ (0 : Int) < a := by omega
                simp [-Bool.exists_bool, g0, g1, g2, g3, g8, g9, g10, g11, a0, a0i, k133, y1, y2, y3, y4, lr, lri, Int.not_lt.1 lri, k120, sH_cell hb, St.tidy, hb, sH_take]
                exact ⟨md - a, by omega, a, md, rfl, by omega, by omega, l1, l164, decide (rg ≥ bl), apt, d5, s5, st.symm, ⟨rfl, rfl, rfl, by simp, rfl⟩, rfl⟩
  obtain ⟨v, h', e1, rfl, rfl⟩ := key
  exact e1
end Z.U
end Go.Abs
/- Sorting: slices.Sort. -/
namespace Go.Abs
namespace Z.U
set_option maxRecDepth 100000
set_option maxHeartbeats 0
open Go.Sort (ltInt pdq bitsLen)
abbrev srt (l : List Int) : List Int := l.mergeSort fun x y => decide (x ≤ y)
theorem c115 {D lim : Nat} {h : Heap} {b : Nat} (hb : b < h.length) {l : List Int} (hl : l.length ≤ 24) :
    E.call (D + 7) lim 115 [vS b l.length] (sH h b l) = some (.tuple #[], sH h b (srt l)) := by
  have key : ∃ v h', E.call (D + 7) lim 115 [vS b l.length] (sH h b l) = some (v, h') ∧ v = .tuple #[] ∧ h' = sH h b (srt l) := by
    refine call_trunc (Q := fun v h' => v = .tuple #[] ∧ h' = sH h b (srt l)) fn115 rfl (by simp [ef115]) ?_
    have bl := (Go.Sort.bitsLen_le_iff l.length 6).2 (by omega)
    have k120 := fun lim => c156 (D := D) (lim := lim) hb (a := 0) (e := l.length) (l := bitsLen l.length) (d := l.toArray) (by omega) (by simp) (by simpa using hl) (by omega)
    have k121 := fun lim H => c157 (D := D + 4) (lim := lim) (h := H) (n := l.length) (by omega)
    have w64 : IntKind.wrap .u64 (l.length : Int) = (l.length : Int) := wrapU2 (by omega) (by omega)
    have e : (pdq ltInt l.toArray 0 l.length (bitsLen l.length) true true).toList = srt l := by
      have := Go.Sort.sortInt l
      unfold Go.Sort.sort at this
      simpa using this
    rw [e] at k120
    simp at k120
    have tk := fun x => sH_take (h := h) (b := b) x
    simp [ef115, w64, k121, k120, tk]
  obtain ⟨v, h', e1, rfl, rfl⟩ := key
  exact e1
/-- Of an empty row. -/
theorem c115n {D lim : Nat} {h : Heap} : E.call (D + 7) lim 115 [.slice none 0 0] h = some (.tuple #[], h) := by
  have k121 := fun lim H => c157 (D := D + 4) (lim := lim) (h := H) (n := 0) (by omega)
  have b0 : bitsLen 0 = 0 := rfl
  rw [b0] at k121
  simp only [Int.ofNat_zero, Int.cast_ofNat_Int] at k121
  have k126 : ∀ lim, E.call (D + 5) lim 190 [.slice none 0 0, i64 0, i64 0] h = some (.tuple #[], h) := fun lim => by
    have key : ∃ v h', E.call (D + 5) lim 190 [.slice none 0 0, i64 0, i64 0] h = some (v, h') ∧ v = .tuple #[] ∧ h' = h := by
      refine call_trunc (Q := fun v h' => v = .tuple #[] ∧ h' = h) fn190 rfl (by simp [ef190]) ?_
      have tk : List.take h.length h = h := List.take_length
      have w : IntKind.wrap .i64 1 = 1 := wrap_eq (by omega) (by omega)
      simp [ef190, w]
      refine wpC_loop (fun q st => q = 0 ∧ st = ⟨[(0, .slice none 0 0), (1, i64 0), (2, i64 0), (6, i64 1)], h⟩) 0 (by show 0 < 2 ^ 64; omega) ?_ ?_
      · simp [St.tidy, tk]
      · rintro q hq _ ⟨rfl, rfl⟩
        simp [tk]
    obtain ⟨v, h', e1, rfl, rfl⟩ := key
    exact e1
  have k120 : ∀ lim, E.call (D + 6) lim 156 [.slice none 0 0, i64 0, i64 0, i64 0] h = some (.tuple #[], h) := fun lim => by
    have key : ∃ v h', E.call (D + 6) lim 156 [.slice none 0 0, i64 0, i64 0, i64 0] h = some (v, h') ∧ v = .tuple #[] ∧ h' = h := by
      refine call_trunc (Q := fun v h' => v = .tuple #[] ∧ h' = h) fn156 rfl (by simp [ef156]) ?_
      have tk : List.take h.length h = h := List.take_length
      have w : IntKind.wrap .i64 0 = 0 := wrap_eq (by omega) (by omega)
      simp [ef156]
      refine wpC_loop (fun q st => q = 0 ∧ st = ⟨[(0, .slice none 0 0), (1, i64 0), (2, i64 0), (3, i64 0), (8, .bool true), (9, .bool true)], h⟩) 0 (by show 0 < 2 ^ 64; omega) ?_ ?_
      · simp [St.tidy, tk]
      · rintro q hq _ ⟨rfl, rfl⟩
        simp [w, k126, tk]
    obtain ⟨v, h', e1, rfl, rfl⟩ := key
    exact e1
  have key : ∃ v h', E.call (D + 7) lim 115 [.slice none 0 0] h = some (v, h') ∧ v = .tuple #[] ∧ h' = h := by
    refine call_trunc (Q := fun v h' => v = .tuple #[] ∧ h' = h) fn115 rfl (by simp [ef115]) ?_
    have tk : List.take h.length h = h := List.take_length
    have w : IntKind.wrap .u64 0 = 0 := wrapU2 (by omega) (by omega)
    simp [ef115, w, k121, k120, tk]
  obtain ⟨v, h', e1, rfl, rfl⟩ := key
  exact e1
end Z.U
end Go.Abs
