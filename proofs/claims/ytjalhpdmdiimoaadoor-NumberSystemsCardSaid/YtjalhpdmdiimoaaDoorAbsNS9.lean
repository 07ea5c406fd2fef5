/- The law NumberSystems: all systems of differences. -/
import Derived.Test.YtjalhpdmdiimoaaDoorAbsNS8
import Derived.Test.YtjalhpdmdiimoaaDoorAbsNL6
set_option linter.unusedSimpArgs false
set_option linter.unusedVariables false
namespace Go.Abs
namespace N
set_option maxRecDepth 100000
set_option maxHeartbeats 0
theorem law6 (lim : Nat) {h : Heap} (A : AwOk h) {v : Value} {l0 : List B3i} {n : Int} (s : SlB3 h v l0) : E.call 21 lim 6 [i6 n, v] h = some (.bool true, h) := by
  have a0 := A.a0
  have r := s.rules2
  refine call1 fn6 rfl (by simp [ef6]) ?_
  by_cases hA : 30 < l0.length ∧ l0.length ≤ 200
  · have h1 : (30 : Int) < l0.length := by omega
    have h2 : (l0.length : Int) ≤ 200 := by omega
    simp [ef6, a0, r, hA.1, hA.2, h1, h2, Int.not_le.2 h1]
  by_cases hB : 210 < l0.length
  · have h1 : (30 : Int) < l0.length := by omega
    have h2 : ¬ (l0.length : Int) ≤ 200 := by omega
    have h3 : (210 : Int) < l0.length := by omega
    have h1' : 30 < l0.length := by omega
    have h2' : ¬ l0.length ≤ 200 := by omega
    simp [ef6, a0, r, hB, h1, h2, h3, h1', h2', Int.not_le.2 h1, Int.not_le.2 h3]
  have k34 := fun lim => c34 (d := 18) (lim := lim) (n := n) (Sl_freeze.2 s)
  have k36 := fun lim L => c36 (d := 18) (lim := lim) (n := n) ((Sl_freeze.2 s).app L)
  have k36' := fun lim => c36 (d := 18) (lim := lim) (n := n) (Sl_freeze.2 s)
  by_cases he : chkS n l0 = 0
  · obtain ⟨k, l, rfl, h1, h2, rfl, G, hl⟩ := toBd he
    have ml : (l.map iB).length = l.length := by simp
    have h30 : ¬ 30 < (l.map iB).length := fun z => hA ⟨z, by rw [ml]; exact hl⟩
    have h30i : ¬ (30 : Int) < ((l.map iB).length : Int) := by omega
    have h210i : ¬ (210 : Int) < ((l.map iB).length : Int) := by omega
    rw [ml] at r h30 h30i h210i hB
    rw [he] at k34 k36 k36'
    have k37 := fun lim L => c37 (d := 19) (lim := lim) ((Sl_freeze.2 s).app L) G h1 h2 (by omega)
    rcases ht : tryR l k k 0 with _ | X
    · obtain ⟨t0, hlow⟩ : ∃ t0, (iterR l k k).low = some t0 := by
        have := tryR_none k 0 ht k (by omega) (by omega)
        rcases q : (iterR l k k).low with _ | t0
        · exact absurd q this
        · exact ⟨t0, rfl⟩
      obtain ⟨nv, hb, p, C⟩ := never G h1 hlow
      have t1 : tryR l k (k + 1) 0 = none := tryR_last k 0 ht (by rw [show 0 + k + 1 = k + 1 by omega]; exact nv)
      rcases hit : iterR l k k with ⟨x0, b, lw⟩
      rw [hit] at hlow hb C
      simp only at hlow hb C
      subst hlow
      have k35 := fun lim => c35b (d := 17) (lim := lim) (Sl_freeze.2 s) G h1 h2 (by omega) he ht hit hb C
      rw [t1] at k37
      simp only [solV, solB] at k37
      have Wy := way_of C h2
      have hc := chain_of C
      have hs := sum_all C
      have lR : (cycI l b (back l b t0 k) p).reverse.length = p := by simp [cycI_len]
      have p1 := C.p1
      have pn := C.pn
      clear hb C nv
      generalize (cycI l b (back l b t0 k) p).reverse = R at *
      generalize fW l b (back l b t0 k) p = f at *
      rw [← lR] at hc hs
      have gR : ∀ L, Heap.get (h.freeze ++ (some ⟨cI R, true⟩ :: L)) h.length = some ⟨cI R, true⟩ := fun L => by rw [hget_base0 (by simp)]; rfl
      have gR2 : ∀ L, Heap.get (h.freeze ++ (some ⟨cI R, true⟩ :: some ⟨cI R, true⟩ :: L)) (h.length + 1) = some ⟨cI R, true⟩ := fun L => by rw [hget_base (by simp)]; rfl
      have k39 := fun lim L => c39 (d := 18) (lim := lim) ((Sl_freeze.2 s).app (some ⟨cI R, true⟩ :: L)) (SlI'_own (gR L) lR.symm) G Wy (by omega) hc hs
      have k41 := fun lim => c41 (d := 19) (lim := lim) (gR []) lR.symm p1 (by omega)
      have k40 := fun lim L => c40 (d := 17) (lim := lim) ((Sl_freeze.2 s).app (some ⟨cI R, true⟩ :: some ⟨cI R, true⟩ :: L)) (SlI'_own (gR2 L) lR.symm) G Wy (by omega) he hc hs
      generalize sumF l f R.length = S at *
      have pk : ¬ k < p := by omega
      have pki : ¬ (k : Int) < p := by omega
      simp at k35 k37 k39 k40 k41
      simp [ef6, a0, r, h30, h30i, h210i, Int.not_lt.1 h30i, Int.not_lt.1 h210i, hB, k34, k35, k36, k36', k37, k39, k40, k41, pk, pki]
      omega
    · have t1 := tryR_more k 0 X ht
      have lX := tryR_len G k 0 X ht
      have k35 := fun lim => c35a (d := 17) (lim := lim) (Sl_freeze.2 s) G h1 h2 (by omega) he ht
      rw [t1] at k37
      simp only [solV, solB] at k37
      have gX : ∀ L, Heap.get (h.freeze ++ (some ⟨cI X, true⟩ :: L)) h.length = some ⟨cI X, true⟩ := fun L => by rw [hget_base0 (by simp)]; rfl
      have gX2 : ∀ L, Heap.get (h.freeze ++ (some ⟨cI X, true⟩ :: some ⟨cI X, true⟩ :: L)) (h.length + 1) = some ⟨cI X, true⟩ := fun L => by rw [hget_base (by simp)]; rfl
      have k38 := fun lim => c38 (d := 19) (lim := lim) (SlI'_own (gX [some ⟨cI X, true⟩]) lX.symm) (SlI'_own (gX2 []) lX.symm) (by omega)
      simp at k35 k37 k38
      simp [ef6, a0, r, h30, h30i, h210i, Int.not_lt.1 h30i, Int.not_lt.1 h210i, hB, k34, k35, k36, k36', k37, k38]
  · have k35 := fun lim => c35e (d := 17) (lim := lim) (Sl_freeze.2 s) he
    by_cases h30 : 30 < l0.length
    · have h200 : ¬ l0.length ≤ 200 := fun z => hA ⟨h30, z⟩
      have i1 : (30 : Int) < l0.length := by omega
      have i2 : ¬ (l0.length : Int) ≤ 200 := by omega
      have i3 : ¬ (210 : Int) < l0.length := by omega
      simp [ef6, a0, r, h30, h200, hB, i1, i2, i3, Int.not_le.2 i1, Int.not_lt.1 i3, k34, k35, k36, k36', he]
    · have i1 : ¬ (30 : Int) < l0.length := by omega
      have i3 : ¬ (210 : Int) < l0.length := by omega
      simp [ef6, a0, r, h30, hB, i1, i3, Int.not_lt.1 i1, Int.not_lt.1 i3, k34, k35, k36, k36', he]
theorem arg_bounds {d : Nat} {h : Heap} {u : Value} (a : ArgV (d + 1) h (false, [.sl [ctI, ctI, ctI]]) u) : ∃ l : List B3i, SlB3 h u l := by
  obtain ⟨l, s, _, _⟩ := typ_slG (k := 3) (by decide) encB (fun g => (g 0, g 1, g 2)) (fun _ => rfl) (fun g j hj => by
    have : j = 0 ∨ j = 1 ∨ j = 2 := by omega
    rcases this with rfl | rfl | rfl <;> rfl) (a.2 0 _ _ rfl rfl)
  exact ⟨l, s⟩
theorem numberSystems_law : ∀ (bs : List (Option Blk)) us, Heap.freeze ([primesB] ++ bs) = [primesB] ++ bs → (∀ n, ctBlocks (([(false, [ctI]), (false, [.sl [ctI, ctI, ctI]])] : List (Bool × List CT)).flatMap (·.2)) = some n → bs.length = n) →
    ArgsV 6 ([primesB] ++ bs) [(false, [ctI]), (false, [.sl [ctI, ctI, ctI]])] us → ∃ h', E.call 21 (([primesB] : Heap) ++ bs).length 6 us ([primesB] ++ bs) = some (.bool true, h') := by
  intro bs us hf k a
  obtain ⟨b, rfl⟩ := one_of k rfl
  obtain ⟨v, w, rfl, a1, a2⟩ := args2 a
  obtain ⟨_, rfl, _⟩ := arg_int a1
  obtain ⟨l, s⟩ := arg_bounds (d := 5) a2
  exact ⟨_, law6 _ (awOk1 hf) s⟩
end N
end Go.Abs
