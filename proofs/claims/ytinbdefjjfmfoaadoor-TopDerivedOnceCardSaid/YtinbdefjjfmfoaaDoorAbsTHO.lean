/- The named temperaments. -/
import Derived.Test.YtinbdefjjfmfoaaDoorAbsTDN
import Derived.Test.YtinbdefjjfmfoaaDoorAbsTEP
import Derived.Test.YtinbdefjjfmfoaaDoorAbsTCM
set_option linter.unusedSimpArgs false
set_option linter.unusedVariables false
/- The named temperaments. -/
namespace Go.Abs
namespace T
set_option maxRecDepth 100000
set_option maxHeartbeats 0
def setAll (v : Value) (o : Nat) (idx : List Nat) (cs : List Value) : List Value := idx.foldl (fun c i => c.set (o + i) v) cs
theorem setAll_len (v : Value) (o : Nat) : ∀ (idx : List Nat) (cs : List Value), (setAll v o idx cs).length = cs.length
  | [], _ => rfl
  | i :: r, cs => by
    have := setAll_len v o r (cs.set (o + i) v)
    rw [List.length_set] at this
    exact this
theorem setAll_take (v : Value) (o : Nat) {idx : List Nat} {j : Nat} (hj : j < idx.length) (cs : List Value) : setAll v o (idx.take (j + 1)) cs = (setAll v o (idx.take j) cs).set (o + idx[j]) v := by
  unfold setAll
  rw [List.take_succ_eq_append_getElem hj, List.foldl_append]; rfl
theorem hput_put (h : Heap) (b : Nat) (x y : Option Blk) : (h.put b x).put b y = h.put b y := by simp [Heap.put]
theorem hput_self {h : Heap} {b : Nat} {k : Blk} (e : h.get b = some k) : h.put b (some k) = h := by
  unfold Heap.get at e
  unfold Heap.put
  rcases q : h[b]? with _ | o
  · simp [q] at e
  · simp [q] at e
    subst e
    have hb : b < h.length := by
      rcases Nat.lt_or_ge b h.length with z | z
      · exact z
      · rw [List.getElem?_eq_none z] at q; cases q
    rw [List.getElem?_eq_getElem hb] at q
    have := Option.some.inj q
    rw [← this]; exact List.set_getElem_self hb
theorem c124 {d lim : Nat} {h : Heap} {b o sb : Nat} {x : Int} {idx : List Nat} {cs : List Value} {rw' : Bool} (hb : h.get b = some ⟨cs, true⟩) (hs : h.get sb = some ⟨idx.map (fun i : Nat => i64 (i : Int)), rw'⟩) (hne : sb ≠ b)
    (hi : ∀ i ∈ idx, i < 12) (hl : idx.length ≤ 100) (ho : o + 12 ≤ cs.length) :
    E.call (d + 1) lim 124 [.pointer (some ⟨b, o, none⟩), i64 x, .slice (some ⟨sb, 0, none⟩) idx.length 1] h = some (.tuple #[], h.put b (some ⟨setAll (i64 x) o idx cs, true⟩)) := by
  have hbl := Heap.get_lt hb
  have hsl := Heap.get_lt hs
  have key : ∃ v h', E.call (d + 1) lim 124 [.pointer (some ⟨b, o, none⟩), i64 x, .slice (some ⟨sb, 0, none⟩) idx.length 1] h = some (v, h') ∧ v = .tuple #[] ∧ h' = h.put b (some ⟨setAll (i64 x) o idx cs, true⟩) := by
    refine call_trunc (Q := fun v h' => v = .tuple #[] ∧ h' = h.put b (some ⟨setAll (i64 x) o idx cs, true⟩)) fn124 rfl (by simp [ef124]) ?_
    simp [ef124]
    refine wpC_loop (fun m st => ∃ j, m = idx.length - j ∧ j ≤ idx.length ∧ st = ⟨[(0, .pointer (some ⟨b, o, none⟩)), (1, i64 x), (8, .slice (some ⟨sb, 0, none⟩) idx.length 1), (9, i64 idx.length), (10, i64 j)], h.put b (some ⟨setAll (i64 x) o (idx.take j) cs, true⟩)⟩) idx.length (by show idx.length < 2 ^ 64; omega) ?_ ?_
    · simp [St.tidy, hbl, hsl]
      exact ⟨0, by omega, by omega, rfl, by simp [setAll, hput_self hb]⟩
    · rintro m hm _ ⟨j, rfl, hj, rfl⟩
      by_cases hlt : j < idx.length
      · have hh : idx.length * 1 = idx.length := by omega
        have hv : idx[j] < 12 := hi _ (List.getElem_mem hlt)
        have g1 : Heap.get (h.put b (some ⟨setAll (i64 x) o (idx.take j) cs, true⟩)) sb = some ⟨idx.map (fun i : Nat => i64 (i : Int)), rw'⟩ := by rw [Heap.get_put_ne _ (Ne.symm hne)]; exact hs
        have g2 : Heap.get (h.put b (some ⟨setAll (i64 x) o (idx.take j) cs, true⟩)) b = some ⟨setAll (i64 x) o (idx.take j) cs, true⟩ := Heap.get_put_eq _ hbl
        have sl := setAll_len (i64 x) o (idx.take j) cs
        have st := setAll_take (i64 x) o hlt cs
        have w1' := w1 (i := j) (by omega)
        simp only [W] at w1'
        have c1 : ((idx[j] : Nat) : Int) < 12 := by omega
        have gc := fun z => cell_get (o := z) g1
        simp [St.tidy, hbl, hsl, hlt, g2, gc]
        refine ⟨by omega, ⟨by omega, .inr rfl⟩, idx.length - (j + 1), by omega, j + 1, rfl, by omega, w1', ?_⟩
        rw [hput_put, List.take_of_length_le (by rw [Heap.length_put]; omega), ← st]
      · obtain rfl : j = idx.length := by omega
        have tk : ∀ y, List.take h.length (h.put b y) = h.put b y := fun y => List.take_of_length_le (by rw [Heap.length_put]; omega)
        simp [tk]
  obtain ⟨v, h', e, rfl, rfl⟩ := key
  exact e
def nmE : ByteArray := ⟨#[101, 113, 117, 97, 108]⟩
def nmP : ByteArray := ⟨#[112, 121, 116, 104, 97, 103, 111, 114, 97, 115]⟩
def nmM : ByteArray := ⟨#[109, 101, 97, 110, 116, 111, 110, 101]⟩
def nmW : ByteArray := ⟨#[119, 101, 114, 99, 107, 109, 101, 105, 115, 116, 101, 114]⟩
def nmK : ByteArray := ⟨#[107, 105, 114, 110, 98, 101, 114, 103, 101, 114]⟩
def nmV : ByteArray := ⟨#[118, 97, 108, 108, 111, 116, 116, 105]⟩
def nmY : ByteArray := ⟨#[121, 111, 117, 110, 103]⟩
def tmC (nm : ByteArray) (p s : List Int) : List Value := .string nm :: (p ++ s).map i64
def z12 : List Int := [0, 0, 0, 0, 0, 0, 0, 0, 0, 0, 0, 0]
def ixC (idx : List Nat) : List Value := idx.map (fun i : Nat => i64 (i : Int))
theorem each3 {d lim : Nat} {h : Heap} {n : Nat} (hn : n = h.length) {A : Option Blk} {o : Nat} {x : Int} {idx : List Nat} {cs : List Value} (hi : ∀ i ∈ idx, i < 12) (hl : idx.length ≤ 100) (ho : o + 12 ≤ cs.length) :
    E.call (d + 1) lim 124 [.pointer (some ⟨n + 1, o, none⟩), i64 x, .slice (some ⟨n + 2, 0, none⟩) idx.length 1] (h.freeze ++ [A, some ⟨cs, true⟩, some ⟨ixC idx, true⟩]) =
      some (.tuple #[], h.freeze ++ [A, some ⟨setAll (i64 x) o idx cs, true⟩, some ⟨ixC idx, true⟩]) := by
  have g1 : Heap.get (h.freeze ++ [A, some ⟨cs, true⟩, some ⟨ixC idx, true⟩]) (n + 1) = some ⟨cs, true⟩ := by rw [hget_base (by simp [hn])]; rfl
  have g2 : Heap.get (h.freeze ++ [A, some ⟨cs, true⟩, some ⟨ixC idx, true⟩]) (n + 2) = some ⟨ixC idx, true⟩ := by rw [hget_base (by simp [hn])]; rfl
  rw [c124 g1 g2 (by omega) hi hl ho, hput_base (by simp [hn])]
  rfl
def tpP : List Int := [0, 0, 0, 0, 0, 0, 0, 0, 12, 0, 0, 0]
def tsP : List Int := z12
theorem c57P {d lim : Nat} {h : Heap} : E.call (d + 2) lim 57 [.string nmP] h = some (.tuple #[.agg (tmC nmP tpP tsP).toArray, i64 0], h) := by
  refine call1 fn57 rfl (by simp [ef57]) ?_
  unfold nmP
  simp [ef57, tmC, z12, tpP, tsP]
theorem c58P {d lim : Nat} {h : Heap} : E.call (d + 1) lim 58 [.string nmP] h = some (.tuple #[.agg (tmC nmP tpP tsP).toArray, .bool true], h) := by
  refine call1 fn58 rfl (by simp [ef58]) ?_
  unfold nmP
  simp [ef58, wrapL, wpC_unroll, wpI_step, E_fuel, St.tidy, tmC, z12, tpP, tsP]
def tpE : List Int := [1, 1, 1, 1, 1, 1, 1, 1, 1, 1, 1, 1]
def tsE : List Int := z12
theorem c57E {d lim : Nat} {h : Heap} : E.call (d + 2) lim 57 [.string nmE] h = some (.tuple #[.agg (tmC nmE tpE tsE).toArray, i64 0], h) := by
  refine call1 fn57 rfl (by simp [ef57]) ?_
  unfold nmE
  have k := fun lim A nm => each3 (d := d) (lim := lim) (h := h) (n := h.length) rfl (A := A) (o := 1) (x := 1) (idx := [0, 1, 2, 3, 4, 5, 6, 7, 8, 9, 10, 11]) (cs := tmC nm z12 z12) (by decide) (by decide) (by simp [tmC, z12])
  simp [ixC, setAll, tmC, z12] at k
  simp [ef57, tmC, z12, tpE, tsE, k]
theorem c58E {d lim : Nat} {h : Heap} : E.call (d + 1) lim 58 [.string nmE] h = some (.tuple #[.agg (tmC nmE tpE tsE).toArray, .bool true], h) := by
  refine call1 fn58 rfl (by simp [ef58]) ?_
  unfold nmE
  simp [ef58, wrapL, wpC_unroll, wpI_step, E_fuel, St.tidy, tmC, z12, tpE, tsE]
def tpM : List Int := [0, 0, 0, 0, 0, 0, 0, 0, 12, 0, 0, 0]
def tsM : List Int := [3, 3, 3, 3, 3, 3, 3, 3, -33, 3, 3, 3]
theorem c57M {d lim : Nat} {h : Heap} : E.call (d + 2) lim 57 [.string nmM] h = some (.tuple #[.agg (tmC nmM tpM tsM).toArray, i64 0], h) := by
  refine call1 fn57 rfl (by simp [ef57]) ?_
  unfold nmM
  have k := fun lim A nm => each3 (d := d) (lim := lim) (h := h) (n := h.length) rfl (A := A) (o := 13) (x := 3) (idx := [0, 1, 2, 3, 4, 5, 6, 7, 9, 10, 11]) (cs := tmC nm z12 z12) (by decide) (by decide) (by simp [tmC, z12])
  simp [ixC, setAll, tmC, z12] at k
  simp [ef57, tmC, z12, tpM, tsM, k]
theorem c58M {d lim : Nat} {h : Heap} : E.call (d + 1) lim 58 [.string nmM] h = some (.tuple #[.agg (tmC nmM tpM tsM).toArray, .bool true], h) := by
  refine call1 fn58 rfl (by simp [ef58]) ?_
  unfold nmM
  simp [ef58, wrapL, wpC_unroll, wpI_step, E_fuel, St.tidy, tmC, z12, tpM, tsM]
def tpW : List Int := [3, 3, 3, 0, 0, 3, 0, 0, 0, 0, 0, 0]
def tsW : List Int := z12
theorem c57W {d lim : Nat} {h : Heap} : E.call (d + 2) lim 57 [.string nmW] h = some (.tuple #[.agg (tmC nmW tpW tsW).toArray, i64 0], h) := by
  refine call1 fn57 rfl (by simp [ef57]) ?_
  unfold nmW
  have k := fun lim A nm => each3 (d := d) (lim := lim) (h := h) (n := h.length) rfl (A := A) (o := 1) (x := 3) (idx := [0, 1, 2, 5]) (cs := tmC nm z12 z12) (by decide) (by decide) (by simp [tmC, z12])
  simp [ixC, setAll, tmC, z12] at k
  simp [ef57, tmC, z12, tpW, tsW, k]
theorem c58W {d lim : Nat} {h : Heap} : E.call (d + 1) lim 58 [.string nmW] h = some (.tuple #[.agg (tmC nmW tpW tsW).toArray, .bool true], h) := by
  refine call1 fn58 rfl (by simp [ef58]) ?_
  unfold nmW
  simp [ef58, wrapL, wpC_unroll, wpI_step, E_fuel, St.tidy, tmC, z12, tpW, tsW]
def tpK : List Int := [0, 0, 0, 0, 0, 0, 12, 0, 0, 0, 0, 0]
def tsK : List Int := [3, 3, 3, 3, 0, 0, -12, 0, 0, 0, 0, 0]
theorem c57K {d lim : Nat} {h : Heap} : E.call (d + 2) lim 57 [.string nmK] h = some (.tuple #[.agg (tmC nmK tpK tsK).toArray, i64 0], h) := by
  refine call1 fn57 rfl (by simp [ef57]) ?_
  unfold nmK
  have k := fun lim A nm => each3 (d := d) (lim := lim) (h := h) (n := h.length) rfl (A := A) (o := 13) (x := 3) (idx := [0, 1, 2, 3]) (cs := tmC nm z12 z12) (by decide) (by decide) (by simp [tmC, z12])
  simp [ixC, setAll, tmC, z12] at k
  simp [ef57, tmC, z12, tpK, tsK, k]
theorem c58K {d lim : Nat} {h : Heap} : E.call (d + 1) lim 58 [.string nmK] h = some (.tuple #[.agg (tmC nmK tpK tsK).toArray, .bool true], h) := by
  refine call1 fn58 rfl (by simp [ef58]) ?_
  unfold nmK
  simp [ef58, wrapL, wpC_unroll, wpI_step, E_fuel, St.tidy, tmC, z12, tpK, tsK]
def tpV : List Int := [2, 2, 2, 2, 2, 0, 0, 0, 0, 0, 0, 2]
def tsV : List Int := z12
theorem c57V {d lim : Nat} {h : Heap} : E.call (d + 2) lim 57 [.string nmV] h = some (.tuple #[.agg (tmC nmV tpV tsV).toArray, i64 0], h) := by
  refine call1 fn57 rfl (by simp [ef57]) ?_
  unfold nmV
  have k := fun lim A nm => each3 (d := d) (lim := lim) (h := h) (n := h.length) rfl (A := A) (o := 1) (x := 2) (idx := [11, 0, 1, 2, 3, 4]) (cs := tmC nm z12 z12) (by decide) (by decide) (by simp [tmC, z12])
  simp [ixC, setAll, tmC, z12] at k
  simp [ef57, tmC, z12, tpV, tsV, k]
theorem c58V {d lim : Nat} {h : Heap} : E.call (d + 1) lim 58 [.string nmV] h = some (.tuple #[.agg (tmC nmV tpV tsV).toArray, .bool true], h) := by
  refine call1 fn58 rfl (by simp [ef58]) ?_
  unfold nmV
  simp [ef58, wrapL, wpC_unroll, wpI_step, E_fuel, St.tidy, tmC, z12, tpV, tsV]
def tpY : List Int := [2, 2, 2, 2, 2, 2, 0, 0, 0, 0, 0, 0]
def tsY : List Int := z12
theorem c57Y {d lim : Nat} {h : Heap} : E.call (d + 2) lim 57 [.string nmY] h = some (.tuple #[.agg (tmC nmY tpY tsY).toArray, i64 0], h) := by
  refine call1 fn57 rfl (by simp [ef57]) ?_
  unfold nmY
  have k := fun lim A nm => each3 (d := d) (lim := lim) (h := h) (n := h.length) rfl (A := A) (o := 1) (x := 2) (idx := [0, 1, 2, 3, 4, 5]) (cs := tmC nm z12 z12) (by decide) (by decide) (by simp [tmC, z12])
  simp [ixC, setAll, tmC, z12] at k
  simp [ef57, tmC, z12, tpY, tsY, k]
theorem c58Y {d lim : Nat} {h : Heap} : E.call (d + 1) lim 58 [.string nmY] h = some (.tuple #[.agg (tmC nmY tpY tsY).toArray, .bool true], h) := by
  refine call1 fn58 rfl (by simp [ef58]) ?_
  unfold nmY
  simp [ef58, wrapL, wpC_unroll, wpI_step, E_fuel, St.tidy, tmC, z12, tpY, tsY]
end T
end Go.Abs
/- Rotated temperaments. -/
namespace Go.Abs
namespace T
set_option maxRecDepth 100000
set_option maxHeartbeats 0
theorem Tm.ext {C C' : List Value} {nm : ByteArray} {P S P' S' : Nat → Int} (t : Tm C nm P S) (t' : Tm C' nm P' S') (hP : ∀ i, i < 12 → P i = P' i) (hS : ∀ i, i < 12 → S i = S' i) : C = C' := by
  apply List.ext_getElem?
  intro k
  by_cases h0 : k = 0
  · subst h0; rw [t.name, t'.name]
  · by_cases h1 : k < 13
    · obtain ⟨i, rfl⟩ : ∃ i, k = 1 + i := ⟨k - 1, by omega⟩
      rw [t.p i (by omega), t'.p i (by omega), hP i (by omega)]
    · by_cases h2 : k < 25
      · obtain ⟨i, rfl⟩ : ∃ i, k = 13 + i := ⟨k - 13, by omega⟩
        rw [t.s i (by omega), t'.s i (by omega), hS i (by omega)]
      · rw [List.getElem?_eq_none (by rw [t.len]; omega), List.getElem?_eq_none (by rw [t'.len]; omega)]
theorem plain_allNo : ∀ {l : List Value}, l.all plainV = true → allNo l = true
  | [], _ => rfl
  | v :: r, h => by
    rw [List.all_cons, Bool.and_eq_true] at h
    rw [allNo_cons, plain_allNo h.2]; simp [noAddr, h.1]
theorem plain_one {v : Value} (h : plainV v = true) : v.oneCell' = true := by
  cases v <;> first | rfl | (simp [plainV] at h)
theorem plain_allOne : ∀ {l : List Value}, l.all plainV = true → allOne l = true
  | [], _ => rfl
  | v :: r, h => by
    rw [List.all_cons, Bool.and_eq_true] at h
    rw [allOne_cons, plain_allOne h.2, plain_one h.1]; rfl
def zT : List Value := [.string ⟨#[]⟩, i64 0, i64 0, i64 0, i64 0, i64 0, i64 0, i64 0, i64 0, i64 0, i64 0, i64 0, i64 0, i64 0, i64 0, i64 0, i64 0, i64 0, i64 0, i64 0, i64 0, i64 0, i64 0, i64 0, i64 0]
end T
end Go.Abs
/- The law TemperNames. -/
namespace Go.Abs
namespace T
set_option maxRecDepth 100000
set_option maxHeartbeats 0
abbrev kT : List CK := [.str, .int .i64, .int .i64, .int .i64, .int .i64, .int .i64, .int .i64, .int .i64, .int .i64, .int .i64, .int .i64, .int .i64, .int .i64, .int .i64, .int .i64, .int .i64, .int .i64, .int .i64, .int .i64, .int .i64, .int .i64, .int .i64, .int .i64, .int .i64, .int .i64]
def PF (l : List Int) (i : Nat) : Int := l.getD i 0
theorem tmC_tm {nm : ByteArray} {p s : List Int} (hp : p.length = 12) (hs : s.length = 12) : Tm (tmC nm p s) nm (PF p) (PF s) :=
  ⟨by simp [tmC, hp, hs], rfl, fun i hi => by
    unfold tmC PF
    rw [Nat.add_comm, List.getElem?_cons_succ, List.map_append, List.getElem?_append_left (by simp; omega), List.getElem?_map, List.getElem?_eq_getElem (by omega), List.getD_eq_getElem?_getD, List.getElem?_eq_getElem (by omega)]; rfl, fun i hi => by
    unfold tmC PF
    have : 13 + i = (12 + i) + 1 := by omega
    rw [this, List.getElem?_cons_succ, List.map_append, List.getElem?_append_right (by simp; omega)]
    have : 12 + i - (List.map i64 p).length = i := by simp; omega
    rw [this, List.getElem?_map, List.getElem?_eq_getElem (by omega), List.getD_eq_getElem?_getD, List.getElem?_eq_getElem (by omega)]; rfl⟩
theorem Tm.expl {C : List Value} {nm : ByteArray} {P S : Nat → Int} (t : Tm C nm P S) : C = tmC nm [P 0, P 1, P 2, P 3, P 4, P 5, P 6, P 7, P 8, P 9, P 10, P 11] [S 0, S 1, S 2, S 3, S 4, S 5, S 6, S 7, S 8, S 9, S 10, S 11] :=
  t.ext (tmC_tm rfl rfl) (fun i hi => by
    have : i = 0 ∨ i = 1 ∨ i = 2 ∨ i = 3 ∨ i = 4 ∨ i = 5 ∨ i = 6 ∨ i = 7 ∨ i = 8 ∨ i = 9 ∨ i = 10 ∨ i = 11 := by omega
    rcases this with rfl | rfl | rfl | rfl | rfl | rfl | rfl | rfl | rfl | rfl | rfl | rfl <;> rfl) (fun i hi => by
    have : i = 0 ∨ i = 1 ∨ i = 2 ∨ i = 3 ∨ i = 4 ∨ i = 5 ∨ i = 6 ∨ i = 7 ∨ i = 8 ∨ i = 9 ∨ i = 10 ∨ i = 11 := by omega
    rcases this with rfl | rfl | rfl | rfl | rfl | rfl | rfl | rfl | rfl | rfl | rfl | rfl <;> rfl)
theorem Tm.same {C : List Value} {nm : ByteArray} {P S : Nat → Int} (t : Tm C nm P S) : E.eqCells kT C C = some true := by
  rw [t.expl]
  simp [tmC, kT, E.eqCells]
theorem Tm.one {C : List Value} {nm : ByteArray} {P S : Nat → Int} (t : Tm C nm P S) : allOne C = true := plain_allOne t.plain
theorem Tm.no {C : List Value} {nm : ByteArray} {P S : Nat → Int} (t : Tm C nm P S) : allNo C = true := plain_allNo t.plain
theorem zT_tm : Tm zT ⟨#[]⟩ (fun _ => 0) (fun _ => 0) := by
  have h : zT = tmC ⟨#[]⟩ z12 z12 := rfl
  have t := tmC_tm (nm := ⟨#[]⟩) (p := z12) (s := z12) rfl rfl
  rw [← h] at t
  have e : PF z12 = fun _ => 0 := by
    funext i
    unfold PF z12
    by_cases q : i < 12
    · have : i = 0 ∨ i = 1 ∨ i = 2 ∨ i = 3 ∨ i = 4 ∨ i = 5 ∨ i = 6 ∨ i = 7 ∨ i = 8 ∨ i = 9 ∨ i = 10 ∨ i = 11 := by omega
      rcases this with rfl | rfl | rfl | rfl | rfl | rfl | rfl | rfl | rfl | rfl | rfl | rfl <;> rfl
    · rw [List.getD_eq_getElem?_getD, List.getElem?_eq_none (by simp; omega)]; rfl
  rw [e] at t; exact t
theorem c57N {d lim : Nat} {h : Heap} {nm : ByteArray} (h1 : nm ≠ nmE) (h2 : nm ≠ nmP) (h3 : nm ≠ nmM) (h4 : nm ≠ nmW) (h5 : nm ≠ nmK) (h6 : nm ≠ nmV) (h7 : nm ≠ nmY) : E.call (d + 2) lim 57 [.string nm] h = some (.tuple #[.agg zT.toArray, i64 6], h) := by
  refine call1 fn57 rfl (by simp [ef57]) ?_
  unfold nmE at h1; unfold nmP at h2; unfold nmM at h3; unfold nmW at h4; unfold nmK at h5; unfold nmV at h6; unfold nmY at h7
  simp [ef57, h1, h2, h3, h4, h5, h6, h7, zT]
theorem c58N {d lim : Nat} {h : Heap} {nm : ByteArray} (h1 : nm ≠ nmE) (h2 : nm ≠ nmP) (h3 : nm ≠ nmM) (h4 : nm ≠ nmW) (h5 : nm ≠ nmK) (h6 : nm ≠ nmV) (h7 : nm ≠ nmY) : E.call (d + 1) lim 58 [.string nm] h = some (.tuple #[.agg zT.toArray, .bool false], h) := by
  refine call1 fn58 rfl (by simp [ef58]) ?_
  unfold nmE at h1; unfold nmP at h2; unfold nmM at h3; unfold nmW at h4; unfold nmK at h5; unfold nmV at h6; unfold nmY at h7
  simp [ef58, h1, h2, h3, h4, h5, h6, h7, zT]
theorem chk_E : chkT nmE (PF tpE) (PF tsE) = 0 := by decide +kernel
theorem chk_P : chkT nmP (PF tpP) (PF tsP) = 0 := by decide +kernel
theorem chk_M : chkT nmM (PF tpM) (PF tsM) = 0 := by decide +kernel
theorem chk_W : chkT nmW (PF tpW) (PF tsW) = 0 := by decide +kernel
theorem chk_K : chkT nmK (PF tpK) (PF tsK) = 0 := by decide +kernel
theorem chk_V : chkT nmV (PF tpV) (PF tsV) = 0 := by decide +kernel
theorem chk_Y : chkT nmY (PF tpY) (PF tsY) = 0 := by decide +kernel
structure NamedAs (nm : ByteArray) (X : List Value) (b : Bool) : Prop where
  tm : ∃ n P S, Tm X n P S
  c57 : ∀ d lim hh, E.call (d + 2) lim 57 [.string nm] hh = some (.tuple #[.agg X.toArray, i64 (if b = true then 0 else 6)], hh)
  c58 : ∀ d lim hh, E.call (d + 1) lim 58 [.string nm] hh = some (.tuple #[.agg X.toArray, .bool b], hh)
  ok : b = true → ∀ d lim hh, E.call (d + 4) lim 51 [.agg X.toArray] hh = some (i64 0, hh)
  no : b = false → X = zT
theorem NamedAs.mk' {nm : ByteArray} {p s : List Int} (hp : p.length = 12) (hs : s.length = 12) (c57 : ∀ d lim hh, E.call (d + 2) lim 57 [.string nm] hh = some (.tuple #[.agg (tmC nm p s).toArray, i64 0], hh))
    (c58 : ∀ d lim hh, E.call (d + 1) lim 58 [.string nm] hh = some (.tuple #[.agg (tmC nm p s).toArray, .bool true], hh)) (hn : nm.size ≤ 1000) (hc : chkT nm (PF p) (PF s) = 0) : NamedAs nm (tmC nm p s) true :=
  ⟨⟨_, _, _, tmC_tm hp hs⟩, c57, c58, fun _ d lim hh => by rw [c51 (tmC_tm hp hs) hn, hc], fun q => by cases q⟩
theorem named (nm : ByteArray) : ∃ X b, NamedAs nm X b := by
  by_cases h1 : nm = nmE
  · subst h1; exact ⟨_, _, .mk' rfl rfl (fun _ _ _ => c57E) (fun _ _ _ => c58E) (by decide) chk_E⟩
  by_cases h2 : nm = nmP
  · subst h2; exact ⟨_, _, .mk' rfl rfl (fun _ _ _ => c57P) (fun _ _ _ => c58P) (by decide) chk_P⟩
  by_cases h3 : nm = nmM
  · subst h3; exact ⟨_, _, .mk' rfl rfl (fun _ _ _ => c57M) (fun _ _ _ => c58M) (by decide) chk_M⟩
  by_cases h4 : nm = nmW
  · subst h4; exact ⟨_, _, .mk' rfl rfl (fun _ _ _ => c57W) (fun _ _ _ => c58W) (by decide) chk_W⟩
  by_cases h5 : nm = nmK
  · subst h5; exact ⟨_, _, .mk' rfl rfl (fun _ _ _ => c57K) (fun _ _ _ => c58K) (by decide) chk_K⟩
  by_cases h6 : nm = nmV
  · subst h6; exact ⟨_, _, .mk' rfl rfl (fun _ _ _ => c57V) (fun _ _ _ => c58V) (by decide) chk_V⟩
  by_cases h7 : nm = nmY
  · subst h7; exact ⟨_, _, .mk' rfl rfl (fun _ _ _ => c57Y) (fun _ _ _ => c58Y) (by decide) chk_Y⟩
  exact ⟨zT, false, ⟨⟨_, _, _, zT_tm⟩, fun _ _ _ => c57N h1 h2 h3 h4 h5 h6 h7, fun _ _ _ => c58N h1 h2 h3 h4 h5 h6 h7, fun q => (by cases q), fun _ => rfl⟩⟩
end T
end Go.Abs
/- Nothing of this text is needed here. -/
