/- The law TopBeatsEnclosed. -/
import Derived.Test.YtinbdefjjfmfoaaDoorAbsTH7
import Derived.Test.YtinbdefjjfmfoaaDoorAbsTHO
import Derived.Test.YtinbdefjjfmfoaaDoorAbsTEN
import Derived.Test.YtinbdefjjfmfoaaDoorAbsTIO
set_option linter.unusedSimpArgs false
set_option linter.unusedVariables false
/- The law TopBeatsEnclosed. -/
namespace Go.Abs
namespace T
set_option maxRecDepth 100000
set_option maxHeartbeats 0
theorem EncS.exact {a b c e : Int} {t L : Nat} (l : L ≤ 1000000000000000) (p : encQ a b c e t L) (q : ¬ encP a b c e t (L + 1)) : EncS a b c e t L L :=
  ⟨by omega, fun n _ => ⟨fun k => by
    by_cases h : n ≤ L
    · exact h
    · exact absurd (encP_mono (by omega) k) q, fun k => encP_mono k (Nat.le_of_eq p)⟩, fun _ => rfl, fun k => absurd p k⟩
theorem encT : EncS (-1) 1 0 1 220000 330000 330000 := EncS.exact (by decide) (by decide +kernel) (by decide +kernel)
theorem encT2 : encN (PF tpP) (PF tsP) 440000 43 330000 330000 := by
  unfold encN
  exact EncS.exact (by decide) (by decide +kernel) (by decide +kernel)
theorem intT : intV nmP (PF tpP) (PF tsP) 36 43 = (pt (-1) 1 0 1, 0) := by
  have e := intV_ok (lo := 36) (hi := 43) chk_P (by decide) (by decide)
  simp only [Int.cast_ofNat_Int] at e
  have k : pit (intX (PF tpP) (PF tsP) 36 43) = pt (-1) 1 0 1 := by kernel_rfl
  rw [e, k]
theorem tuned {d lim : Nat} {h : Heap} (sp : SlU h (.slice (some ⟨0, 0, none⟩) 3 1) [2, 3, 5]) : E.call (d + 8) lim 70 [] h = some (.bool true, h) := by
  have sp2 : ∀ L, SlU (h.freeze ++ L) (.slice (some ⟨0, 0, none⟩) 3 1) [2, 3, 5] := fun L => (Sl_freeze.2 sp).app L
  have tm := tmC_tm (nm := nmP) (p := tpP) (s := tsP) rfl rfl
  have k57 := fun lim hh => c57P (d := d + 5) (lim := lim) (h := hh)
  have k22 := fun lim hh => c22 (d := d + 1) (lim := lim) (h := hh) (lo := 36) (hi := 43) tm (by decide)
  rw [intT] at k22
  have k82 := fun lim L => c82 (d := d + 2) (lim := lim) (sp2 L) (a := -1) (b := 1) (c := 0) (e := 1) (by decide) (by decide) encT
  have hv : smallL 330000 330000 = 330000 ∧ smallH 330000 330000 = 330000 ∧ smallE 330000 330000 = 0 := by decide
  rw [show ((330000 : Nat) : Int) = 330000 from rfl, hv.1, hv.2.1, hv.2.2] at k82
  have k31 := fun lim L => c31 (d := d) (lim := lim) (F := 440000) (n := 43) (sp2 L) tm (by decide) chk_P (by decide) (by decide) encT2
  simp only [Int.cast_ofNat_Int] at k82 k31
  simp only [tmC, tpP, tsP, z12, nmP] at k57 k22 k31
  refine call1 fn70 rfl (by simp [ef70]) ?_
  simp at k57 k22 k31
  simp [ef70, k57, k22, k82, k31]
theorem wr {n : Int} (h : -1000000000000000000 ≤ n ∧ n ≤ 1000000000000000000) : IntKind.wrap .i64 n = n := wrapL (by omega) (by omega)
end T
end Go.Abs
/- The law TopDerivedOnce. -/
namespace Go.Abs
namespace T
set_option maxRecDepth 100000
set_option maxHeartbeats 0
def TuDeep (h : Heap) : Prop := ∀ (lim : Nat) (L : List (Option Blk)), E.call 199 lim 70 [] (h.freeze ++ L) = some (.bool true, h.freeze ++ L)
theorem tuDeep (bs : List (Option Blk)) : TuDeep ([primesB] ++ bs) := fun _ L => tuned (d := 191) ((Sl_freeze.2 (sp0 bs)).app L)
theorem fol_wide {lo hi : Int} (h1 : 0 ≤ lo) (h2 : hi ≤ 87) : ∀ (r m : List X2), (fol lo hi r m).1 = 0 → fol 0 87 r m = fol lo hi r m
  | [], m, _ => rfl
  | x :: r, m, h => by
    simp only [fol] at h ⊢
    split at h
    · rename_i w
      obtain ⟨w1, w2⟩ := w
      have w3 : within x.1 0 87 = true := by simp [within] at w1 ⊢; omega
      have w4 : within x.2 0 87 = true := by simp [within] at w2 ⊢; omega
      rw [if_pos (show within x.1 0 87 = true ∧ within x.2 0 87 = true from ⟨w3, w4⟩), if_pos (show within x.1 lo hi = true ∧ within x.2 lo hi = true from ⟨w1, w2⟩)]
      split at h
      · omega
      · rename_i a
        rw [if_neg a, if_neg a]
        split at h
        · omega
        · rename_i b
          rw [if_neg b, if_neg b]
          split at h
          · omega
          · rename_i c
            rw [if_neg c, if_neg c]
            exact fol_wide h1 h2 r _ h
    · omega
/-- An order that is accepted tunes each note. -/
theorem or_all {lo hi : Int} {l : List X2} (h : chkOr lo hi l = 0) {x : Int} (hx : lo ≤ x ∧ x ≤ hi) : (folR 0 87 l).1 = 0 ∧ mLook (folR 0 87 l).2 x ≠ none ∧ isNote x = true := by
  unfold chkOr at h
  split at h
  · rename_i q
    obtain ⟨q1, q2, q3, q4⟩ := q
    have b1 : 0 ≤ lo ∧ lo ≤ 87 := by simpa [isNote, within] using q1
    have b2 : 0 ≤ hi ∧ hi ≤ 87 := by simpa [isNote, within] using q2
    split at h
    · omega
    · rename_i e0
      simp only [ne_eq, Decidable.not_not] at e0
      split at h
      · rename_i hlen
        unfold folR at e0 hlen ⊢
        split at e0
        · simp at e0
        · rename_i hl
          rw [if_neg hl] at hlen ⊢
          rw [fol_wide b1.1 b2.2 _ _ e0]
          obtain ⟨a, b⟩ := fol_good l [(48, 48)] (by simp) (by simp; exact ⟨q3, q4⟩) e0
          refine ⟨e0, fun z => ?_, by simp [isNote, within]; omega⟩
          have nm := mLook_keys.1 z
          have := range_len (lo := lo) (hi - lo + 1).toNat (x :: (fol lo hi l [(48, 48)]).2.map (·.1)) (List.nodup_cons.2 ⟨nm, a⟩) (fun y hy => by
            rcases List.mem_cons.1 hy with e | e
            · omega
            · have := b y e; omega)
          rw [List.length_cons, List.length_map] at this
          omega
      · omega
  · omega
theorem law18 (lim : Nat) {h : Heap} (A : TuDeep h) (sp : SlU h (.slice (some ⟨0, 0, none⟩) 3 1) [2, 3, 5]) {C : List Value} {nm : ByteArray} {P S : Nat → Int} {va vb : Value} {la lb : List X2} {lo hi x : Int} (t : Tm C nm P S) (sa : SlY h va la) (sb : SlY h vb lb) :
    E.call 200 lim 18 [.agg C.toArray, .agg #[va, vb, i64 lo, i64 hi], i64 x] h = some (.bool true, h) := by
  have a1 := A
  unfold TuDeep at a1
  have k20 := fun lim hh => c20 (d := 198) (lim := lim) (h := hh) t
  have sp2 : ∀ L, SlU (h.freeze ++ L) (.slice (some ⟨0, 0, none⟩) 3 1) [2, 3, 5] := fun L => (Sl_freeze.2 sp).app L
  have sa2 : ∀ L, SlY (h.freeze ++ L) va la := fun L => (Sl_freeze.2 sa).app L
  have sb2 : ∀ L, SlY (h.freeze ++ L) vb lb := fun L => (Sl_freeze.2 sb).app L
  have ra := sa.len
  have rb := sb.len
  refine call1 fn18 rfl (by simp [ef18]) ?_
  by_cases hs : nm.size ≤ 30
  case neg => simp [ef18, a1, k20, hs, t.len, t.take]
  have k51 := fun lim hh => c51 (d := 195) (lim := lim) (h := hh) t (by omega)
  by_cases hla : (103 : Int) < la.length
  · simp [ef18, a1, k20, hs, t.len, t.take, ra, hla, Int.not_le.2 hla]
  by_cases hlb : (103 : Int) < lb.length
  · simp [ef18, a1, k20, hs, t.len, t.take, ra, rb, hla, hlb, Int.not_lt.1 hla, Int.not_le.2 hlb]
  by_cases h0 : chkT nm P S = 0
  case neg => simp [ef18, a1, k20, hs, t.len, t.take, ra, rb, hla, hlb, Int.not_lt.1 hla, Int.not_lt.1 hlb, k51, h0]
  by_cases hx1 : x < lo
  · simp [ef18, a1, k20, hs, t.len, t.take, ra, rb, hla, hlb, Int.not_lt.1 hla, Int.not_lt.1 hlb, k51, h0, hx1]
  by_cases hx2 : hi < x
  · simp [ef18, a1, k20, hs, t.len, t.take, ra, rb, hla, hlb, Int.not_lt.1 hla, Int.not_lt.1 hlb, k51, h0, hx1, hx2]
  have k63a := fun lim L => c63 (d := 195) (lim := lim) (sa2 L) (lo := lo) (hi := hi)
  have k63b := fun lim L => c63 (d := 195) (lim := lim) (sb2 L) (lo := lo) (hi := hi)
  by_cases hca : chkOr lo hi la = 0
  case neg => simp [ef18, a1, k20, hs, t.len, t.take, ra, rb, hla, hlb, Int.not_lt.1 hla, Int.not_lt.1 hlb, k51, h0, hx1, hx2, k63a, hca]
  by_cases hcb : chkOr lo hi lb = 0
  case neg => simp [ef18, a1, k20, hs, t.len, t.take, ra, rb, hla, hlb, Int.not_lt.1 hla, Int.not_lt.1 hlb, k51, h0, hx1, hx2, k63a, k63b, hca, hcb]
  obtain ⟨ea, ma, hn⟩ := or_all hca (x := x) ⟨by omega, by omega⟩
  obtain ⟨eb, mb, _⟩ := or_all hcb (x := x) ⟨by omega, by omega⟩
  have da : errD nm P S la x = 0 := by unfold errD; rw [if_neg (by simpa using h0), if_neg (by simpa using ea), if_pos hn, if_neg ma]
  have db : errD nm P S lb x = 0 := by unfold errD; rw [if_neg (by simpa using h0), if_neg (by simpa using eb), if_pos hn, if_neg mb]
  have k78a := fun lim L => c78 (d := 193) (lim := lim) (x := x) t (by omega) (sa2 L) da
  have k78b := fun lim L => c78 (d := 193) (lim := lim) (x := x) t (by omega) (sb2 L) db
  obtain ⟨ga, ema⟩ := folR_good ea
  obtain ⟨gb, emb⟩ := folR_good eb
  rw [ema] at ma
  rw [emb] at mb
  obtain ⟨r1, er1, ez1⟩ := chn_way ga _ x (Nat.le_refl _) ma
  obtain ⟨r2, er2, ez2⟩ := chn_way gb _ x (Nat.le_refl _) mb
  have l1 : (chn la la.length x)[(chn la la.length x).length - 1]? = some x := by rw [er1]; simp
  have l2 : (chn lb lb.length x)[(chn lb lb.length x).length - 1]? = some x := by rw [er2]; simp
  have n1 : 1 ≤ (chn la la.length x).length := by rw [er1]; simp
  have n2 : 1 ≤ (chn lb lb.length x).length := by rw [er2]; simp
  have c1 := chn_len la la.length x
  have c2 := chn_len lb lb.length x
  have g1 := ga.n
  have g2 := gb.n
  obtain ⟨m, rfl, hm⟩ := isNote_nat hn
  obtain ⟨o, _⟩ := okt h0
  obtain ⟨L, H, s⟩ := encS (intX P S 48 m).1 (intX P S 48 m).2.1 (intX P S 48 m).2.2 12 (by decide) 440000
  have q1 := (int_ok o (lo := 48) (hi := m) (by omega) hm).1
  have k82 := fun lim Q => c82 (d := 194) (lim := lim) (sp2 Q) (isPitch_red q1) (by decide) (EncS.red s q1)
  obtain ⟨e1, e2, e3⟩ := enc_small o hm (by decide) s
  rw [e1, e2, e3] at k82
  have k31 := fun lim Q => c31 (d := 192) (lim := lim) (F := 440000) (sp2 Q) t (by omega) h0 hm (by decide) s
  have ca0 := cI_getq ez1
  have cb0 := cI_getq ez2
  have ca1 := cI_getq l1
  have cb1 := cI_getq l2
  have wa := wP1 (n := (chn la la.length (m : Int)).length) (by omega) (by omega)
  have wb := wP1 (n := (chn lb lb.length (m : Int)).length) (by omega) (by omega)
  generalize chn la la.length (m : Int) = CA at *
  generalize chn lb lb.length (m : Int) = CB at *
  simp only [Int.toNat_natCast, pit, redV] at k78a k78b k82
  generalize red (intX P S 48 m).1 (intX P S 48 m).2.1 (intX P S 48 m).2.2 12 (intX P S 48 m).1 = u1 at *
  generalize red (intX P S 48 m).1 (intX P S 48 m).2.1 (intX P S 48 m).2.2 12 (intX P S 48 m).2.1 = u2 at *
  generalize red (intX P S 48 m).1 (intX P S 48 m).2.1 (intX P S 48 m).2.2 12 (intX P S 48 m).2.2 = u3 at *
  generalize red (intX P S 48 m).1 (intX P S 48 m).2.1 (intX P S 48 m).2.2 12 12 = u4 at *
  have na : CA.length ≠ 0 := by omega
  have nb : CB.length ≠ 0 := by omega
  have pa : (0 : Int) < CA.length := by omega
  have pb : (0 : Int) < CB.length := by omega
  have pa' : 0 < CA.length := by omega
  have pb' : 0 < CB.length := by omega
  have xa : ((CA.length - 1 : Nat) : Int) < CA.length := by omega
  have xb : ((CB.length - 1 : Nat) : Int) < CB.length := by omega
  simp only [Int.cast_ofNat_Int] at k82 k31
  generalize CA.length - 1 = i1 at *
  generalize CB.length - 1 = i2 at *
  simp [ef18, a1, k20, hs, t.len, t.take, ra, rb, hla, hlb, Int.not_lt.1 hla, Int.not_lt.1 hlb, k51, h0, hx1, hx2, Int.not_lt.1 hx1, Int.not_lt.1 hx2, k63a, k63b, hca, hcb, k78a, k78b, na, nb, pa, pb, xa, xb, wa, wb, ca0, cb0, ca1, cb1, k82, k31]
  refine ⟨pa', pb', ?_⟩
  simp [l1, l2]
theorem topDerivedOnce_law : ∀ (bs : List (Option Blk)) us, Heap.freeze ([primesB] ++ bs) = [primesB] ++ bs → (∀ n, ctBlocks (([ctT, (true, [.sl [ctI, ctI], .sl [ctI, ctI], ctI, ctI]), (false, [ctI])] : List (Bool × List CT)).flatMap (·.2)) = some n → bs.length = n) →
    ArgsV 6 ([primesB] ++ bs) [ctT, (true, [.sl [ctI, ctI], .sl [ctI, ctI], ctI, ctI]), (false, [ctI])] us → ∃ h', E.call 200 (([primesB] : Heap) ++ bs).length 18 us ([primesB] ++ bs) = some (.bool true, h') := by
  intro bs us _ k a
  obtain ⟨u, v, w, rfl, a1, a2, a3⟩ := args3 a
  obtain ⟨C, nm, P, S, rfl, t, _⟩ := arg_tm a1
  obtain ⟨_, rfl, _⟩ := arg_int a3
  obtain ⟨us, rfl, hl, t2⟩ := a2
  match us, hl with
  | [u0, u1, u2, u3], _ =>
    obtain ⟨la, sa, _⟩ := arg_steps (d := 5) (t2 0 _ _ rfl rfl)
    obtain ⟨lb, sb, _⟩ := arg_steps (d := 5) (t2 1 _ _ rfl rfl)
    obtain ⟨lo, rfl, _⟩ := typ_int (t2 2 _ _ rfl rfl)
    obtain ⟨hi, rfl, _⟩ := typ_int (t2 3 _ _ rfl rfl)
    exact ⟨_, law18 _ (tuDeep bs) (sp0 bs) t sa sb⟩
end T
end Go.Abs
