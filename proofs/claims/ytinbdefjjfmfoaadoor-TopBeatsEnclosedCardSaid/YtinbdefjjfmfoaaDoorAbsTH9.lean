/- The law TemperNames. -/
import Derived.Test.YtinbdefjjfmfoaaDoorAbsTH8
set_option linter.unusedSimpArgs false
set_option linter.unusedVariables false
namespace Go.Abs
namespace T
set_option maxRecDepth 100000
set_option maxHeartbeats 0
abbrev kT : List CK := [.str, .int .i64, .int .i64, .int .i64, .int .i64, .int .i64, .int .i64, .int .i64, .int .i64, .int .i64, .int .i64, .int .i64, .int .i64, .int .i64, .int .i64, .int .i64, .int .i64, .int .i64, .int .i64, .int .i64, .int .i64, .int .i64, .int .i64, .int .i64, .int .i64]
def PF (l : List Int) (i : Nat) : Int := l.getD i 0
theorem tmC_tm {nm : ByteArray} {p s : List Int} (hp : p.length = 12) (hs : s.length = 12) : Tm (tmC nm p s) nm (PF p) (PF s) :=
  ⟨by simp [tmC, hp, hs], rfl, fun i hi => by
    unfold tmC PF
    rw [Nat.add_comm, List.getElem?_cons_succ, List.map_append, List.getElem?_append_left (by simp; omega), List.getElem?_map, List.getElem?_eq_getElem (by omega), List.getD_eq_getElem?_getD, List.getElem?_eq_getElem (by omega)]; rfl, fun i hi => by
    unfold tmC PF
    have : 13 + i = (12 + i) + 1 := by omega
    rw [this, List.getElem?_cons_succ, List.map_append, List.getElem?_append_right (by simp; omega)]
    have : 12 + i - (List.map i64 p).length = i := by simp; omega
    rw [this, List.getElem?_map, List.getElem?_eq_getElem (by omega), List.getD_eq_getElem?_getD, List.getElem?_eq_getElem (by omega)]; rfl⟩
theorem Tm.expl {C : List Value} {nm : ByteArray} {P S : Nat → Int} (t : Tm C nm P S) : C = tmC nm [P 0, P 1, P 2, P 3, P 4, P 5, P 6, P 7, P 8, P 9, P 10, P 11] [S 0, S 1, S 2, S 3, S 4, S 5, S 6, S 7, S 8, S 9, S 10, S 11] :=
  t.ext (tmC_tm rfl rfl) (fun i hi => by
    have : i = 0 ∨ i = 1 ∨ i = 2 ∨ i = 3 ∨ i = 4 ∨ i = 5 ∨ i = 6 ∨ i = 7 ∨ i = 8 ∨ i = 9 ∨ i = 10 ∨ i = 11 := by omega
    rcases this with rfl | rfl | rfl | rfl | rfl | rfl | rfl | rfl | rfl | rfl | rfl | rfl <;> rfl) (fun i hi => by
    have : i = 0 ∨ i = 1 ∨ i = 2 ∨ i = 3 ∨ i = 4 ∨ i = 5 ∨ i = 6 ∨ i = 7 ∨ i = 8 ∨ i = 9 ∨ i = 10 ∨ i = 11 := by omega
    rcases this with rfl | rfl | rfl | rfl | rfl | rfl | rfl | rfl | rfl | rfl | rfl | rfl <;> rfl)
theorem Tm.same {C : List Value} {nm : ByteArray} {P S : Nat → Int} (t : Tm C nm P S) : E.eqCells kT C C = some true := by
  rw [t.expl]
  simp [tmC, kT, E.eqCells]
theorem Tm.one {C : List Value} {nm : ByteArray} {P S : Nat → Int} (t : Tm C nm P S) : allOne C = true := plain_allOne t.plain
theorem Tm.no {C : List Value} {nm : ByteArray} {P S : Nat → Int} (t : Tm C nm P S) : allNo C = true := plain_allNo t.plain
theorem Tm.spl {C : List Value} {nm : ByteArray} {P S : Nat → Int} (t : Tm C nm P S) : splice zT 0 C = C := splice_whole (by rw [t.len]; rfl)
theorem zT_tm : Tm zT ⟨#[]⟩ (fun _ => 0) (fun _ => 0) := by
  have h : zT = tmC ⟨#[]⟩ z12 z12 := rfl
  have t := tmC_tm (nm := ⟨#[]⟩) (p := z12) (s := z12) rfl rfl
  rw [← h] at t
  have e : PF z12 = fun _ => 0 := by
    funext i
    unfold PF z12
    by_cases q : i < 12
    · have : i = 0 ∨ i = 1 ∨ i = 2 ∨ i = 3 ∨ i = 4 ∨ i = 5 ∨ i = 6 ∨ i = 7 ∨ i = 8 ∨ i = 9 ∨ i = 10 ∨ i = 11 := by omega
      rcases this with rfl | rfl | rfl | rfl | rfl | rfl | rfl | rfl | rfl | rfl | rfl | rfl <;> rfl
    · rw [List.getD_eq_getElem?_getD, List.getElem?_eq_none (by simp; omega)]; rfl
  rw [e] at t; exact t
theorem c57N {d lim : Nat} {h : Heap} {nm : ByteArray} (h1 : nm ≠ nmE) (h2 : nm ≠ nmP) (h3 : nm ≠ nmM) (h4 : nm ≠ nmW) (h5 : nm ≠ nmK) (h6 : nm ≠ nmV) (h7 : nm ≠ nmY) : E.call (d + 2) lim 57 [.string nm] h = some (.tuple #[.agg zT.toArray, i64 6], h) := by
  refine call1 fn57 rfl (by simp [ef57]) ?_
  unfold nmE at h1; unfold nmP at h2; unfold nmM at h3; unfold nmW at h4; unfold nmK at h5; unfold nmV at h6; unfold nmY at h7
  simp [ef57, h1, h2, h3, h4, h5, h6, h7, zT]
theorem c58N {d lim : Nat} {h : Heap} {nm : ByteArray} (h1 : nm ≠ nmE) (h2 : nm ≠ nmP) (h3 : nm ≠ nmM) (h4 : nm ≠ nmW) (h5 : nm ≠ nmK) (h6 : nm ≠ nmV) (h7 : nm ≠ nmY) : E.call (d + 1) lim 58 [.string nm] h = some (.tuple #[.agg zT.toArray, .bool false], h) := by
  refine call1 fn58 rfl (by simp [ef58]) ?_
  unfold nmE at h1; unfold nmP at h2; unfold nmM at h3; unfold nmW at h4; unfold nmK at h5; unfold nmV at h6; unfold nmY at h7
  simp [ef58, h1, h2, h3, h4, h5, h6, h7, zT]
theorem chk_E : chkT nmE (PF tpE) (PF tsE) = 0 := by decide +kernel
theorem chk_P : chkT nmP (PF tpP) (PF tsP) = 0 := by decide +kernel
theorem chk_M : chkT nmM (PF tpM) (PF tsM) = 0 := by decide +kernel
theorem chk_W : chkT nmW (PF tpW) (PF tsW) = 0 := by decide +kernel
theorem chk_K : chkT nmK (PF tpK) (PF tsK) = 0 := by decide +kernel
theorem chk_V : chkT nmV (PF tpV) (PF tsV) = 0 := by decide +kernel
theorem chk_Y : chkT nmY (PF tpY) (PF tsY) = 0 := by decide +kernel
structure NamedAs (nm : ByteArray) (X : List Value) (b : Bool) : Prop where
  tm : ∃ n P S, Tm X n P S
  c57 : ∀ d lim hh, E.call (d + 2) lim 57 [.string nm] hh = some (.tuple #[.agg X.toArray, i64 (if b = true then 0 else 6)], hh)
  c58 : ∀ d lim hh, E.call (d + 1) lim 58 [.string nm] hh = some (.tuple #[.agg X.toArray, .bool b], hh)
  ok : b = true → ∀ d lim hh, E.call (d + 4) lim 51 [.agg X.toArray] hh = some (i64 0, hh)
  no : b = false → X = zT
theorem NamedAs.mk' {nm : ByteArray} {p s : List Int} (hp : p.length = 12) (hs : s.length = 12) (c57 : ∀ d lim hh, E.call (d + 2) lim 57 [.string nm] hh = some (.tuple #[.agg (tmC nm p s).toArray, i64 0], hh))
    (c58 : ∀ d lim hh, E.call (d + 1) lim 58 [.string nm] hh = some (.tuple #[.agg (tmC nm p s).toArray, .bool true], hh)) (hn : nm.size ≤ 1000) (hc : chkT nm (PF p) (PF s) = 0) : NamedAs nm (tmC nm p s) true :=
  ⟨⟨_, _, _, tmC_tm hp hs⟩, c57, c58, fun _ d lim hh => by rw [c51 (tmC_tm hp hs) hn, hc], fun q => by cases q⟩
theorem named (nm : ByteArray) : ∃ X b, NamedAs nm X b := by
  by_cases h1 : nm = nmE
  · subst h1; exact ⟨_, _, .mk' rfl rfl (fun _ _ _ => c57E) (fun _ _ _ => c58E) (by decide) chk_E⟩
  by_cases h2 : nm = nmP
  · subst h2; exact ⟨_, _, .mk' rfl rfl (fun _ _ _ => c57P) (fun _ _ _ => c58P) (by decide) chk_P⟩
  by_cases h3 : nm = nmM
  · subst h3; exact ⟨_, _, .mk' rfl rfl (fun _ _ _ => c57M) (fun _ _ _ => c58M) (by decide) chk_M⟩
  by_cases h4 : nm = nmW
  · subst h4; exact ⟨_, _, .mk' rfl rfl (fun _ _ _ => c57W) (fun _ _ _ => c58W) (by decide) chk_W⟩
  by_cases h5 : nm = nmK
  · subst h5; exact ⟨_, _, .mk' rfl rfl (fun _ _ _ => c57K) (fun _ _ _ => c58K) (by decide) chk_K⟩
  by_cases h6 : nm = nmV
  · subst h6; exact ⟨_, _, .mk' rfl rfl (fun _ _ _ => c57V) (fun _ _ _ => c58V) (by decide) chk_V⟩
  by_cases h7 : nm = nmY
  · subst h7; exact ⟨_, _, .mk' rfl rfl (fun _ _ _ => c57Y) (fun _ _ _ => c58Y) (by decide) chk_Y⟩
  exact ⟨zT, false, ⟨⟨_, _, _, zT_tm⟩, fun _ _ _ => c57N h1 h2 h3 h4 h5 h6 h7, fun _ _ _ => c58N h1 h2 h3 h4 h5 h6 h7, fun q => (by cases q), fun _ => rfl⟩⟩
end T
end Go.Abs
