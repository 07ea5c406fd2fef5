/- The named temperaments. -/
import Derived.Test.YtinbdefjjfmfoaaDoorAbsTDN
set_option linter.unusedSimpArgs false
set_option linter.unusedVariables false
namespace Go.Abs
namespace T
set_option maxRecDepth 100000
set_option maxHeartbeats 0
def setAll (v : Value) (o : Nat) (idx : List Nat) (cs : List Value) : List Value := idx.foldl (fun c i => c.set (o + i) v) cs
theorem setAll_len (v : Value) (o : Nat) : ∀ (idx : List Nat) (cs : List Value), (setAll v o idx cs).length = cs.length
  | [], _ => rfl
  | i :: r, cs => by
    have := setAll_len v o r (cs.set (o + i) v)
    rw [List.length_set] at this
    exact this
theorem setAll_take (v : Value) (o : Nat) {idx : List Nat} {j : Nat} (hj : j < idx.length) (cs : List Value) : setAll v o (idx.take (j + 1)) cs = (setAll v o (idx.take j) cs).set (o + idx[j]) v := by
  unfold setAll
  rw [List.take_succ_eq_append_getElem hj, List.foldl_append]; rfl
theorem hput_put (h : Heap) (b : Nat) (x y : Option Blk) : (h.put b x).put b y = h.put b y := by simp [Heap.put]
theorem hput_self {h : Heap} {b : Nat} {k : Blk} (e : h.get b = some k) : h.put b (some k) = h := by
  unfold Heap.get at e
  unfold Heap.put
  rcases q : h[b]? with _ | o
  · simp [q] at e
  · simp [q] at e
    subst e
    have hb : b < h.length := by
      rcases Nat.lt_or_ge b h.length with z | z
      · exact z
      · rw [List.getElem?_eq_none z] at q; cases q
    rw [List.getElem?_eq_getElem hb] at q
    have := Option.some.inj q
    rw [← this]; exact List.set_getElem_self hb
theorem c124 {d lim : Nat} {h : Heap} {b o sb : Nat} {x : Int} {idx : List Nat} {cs : List Value} {rw' : Bool} (hb : h.get b = some ⟨cs, true⟩) (hs : h.get sb = some ⟨idx.map (fun i : Nat => i64 (i : Int)), rw'⟩) (hne : sb ≠ b)
    (hi : ∀ i ∈ idx, i < 12) (hl : idx.length ≤ 100) (ho : o + 12 ≤ cs.length) :
    E.call (d + 1) lim 124 [.pointer (some ⟨b, o, none⟩), i64 x, .slice (some ⟨sb, 0, none⟩) idx.length 1] h = some (.tuple #[], h.put b (some ⟨setAll (i64 x) o idx cs, true⟩)) := by
  have hbl := Heap.get_lt hb
  have hsl := Heap.get_lt hs
  have key : ∃ v h', E.call (d + 1) lim 124 [.pointer (some ⟨b, o, none⟩), i64 x, .slice (some ⟨sb, 0, none⟩) idx.length 1] h = some (v, h') ∧ v = .tuple #[] ∧ h' = h.put b (some ⟨setAll (i64 x) o idx cs, true⟩) := by
    refine call_trunc (Q := fun v h' => v = .tuple #[] ∧ h' = h.put b (some ⟨setAll (i64 x) o idx cs, true⟩)) fn124 rfl (by simp [ef124]) ?_
    simp [ef124]
    refine wpC_loop (fun m st => ∃ j, m = idx.length - j ∧ j ≤ idx.length ∧ st = ⟨[(0, .pointer (some ⟨b, o, none⟩)), (1, i64 x), (8, .slice (some ⟨sb, 0, none⟩) idx.length 1), (9, i64 idx.length), (10, i64 j)], h.put b (some ⟨setAll (i64 x) o (idx.take j) cs, true⟩)⟩) idx.length (by show idx.length < 2 ^ 64; omega) ?_ ?_
    · simp [St.tidy, hbl, hsl]
      exact ⟨0, by omega, by omega, rfl, by simp [setAll, hput_self hb]⟩
    · rintro m hm _ ⟨j, rfl, hj, rfl⟩
      by_cases hlt : j < idx.length
      · have hh : idx.length * 1 = idx.length := by omega
        have hv : idx[j] < 12 := hi _ (List.getElem_mem hlt)
        have g1 : Heap.get (h.put b (some ⟨setAll (i64 x) o (idx.take j) cs, true⟩)) sb = some ⟨idx.map (fun i : Nat => i64 (i : Int)), rw'⟩ := by rw [Heap.get_put_ne _ (Ne.symm hne)]; exact hs
        have g2 : Heap.get (h.put b (some ⟨setAll (i64 x) o (idx.take j) cs, true⟩)) b = some ⟨setAll (i64 x) o (idx.take j) cs, true⟩ := Heap.get_put_eq _ hbl
        have sl := setAll_len (i64 x) o (idx.take j) cs
        have st := setAll_take (i64 x) o hlt cs
        have w1' := w1 (i := j) (by omega)
        simp only [W] at w1'
        have c1 : ((idx[j] : Nat) : Int) < 12 := by omega
        have gc := fun z => cell_get (o := z) g1
        simp [St.tidy, hbl, hsl, hlt, g2, gc]
        refine ⟨by omega, ⟨by omega, .inr rfl⟩, idx.length - (j + 1), by omega, j + 1, rfl, by omega, w1', ?_⟩
        rw [hput_put, List.take_of_length_le (by rw [Heap.length_put]; omega), ← st]
      · obtain rfl : j = idx.length := by omega
        have tk : ∀ y, List.take h.length (h.put b y) = h.put b y := fun y => List.take_of_length_le (by rw [Heap.length_put]; omega)
        simp [tk]
  obtain ⟨v, h', e, rfl, rfl⟩ := key
  exact e
def nmE : ByteArray := ⟨#[101, 113, 117, 97, 108]⟩
def nmP : ByteArray := ⟨#[112, 121, 116, 104, 97, 103, 111, 114, 97, 115]⟩
def nmM : ByteArray := ⟨#[109, 101, 97, 110, 116, 111, 110, 101]⟩
def nmW : ByteArray := ⟨#[119, 101, 114, 99, 107, 109, 101, 105, 115, 116, 101, 114]⟩
def nmK : ByteArray := ⟨#[107, 105, 114, 110, 98, 101, 114, 103, 101, 114]⟩
def nmV : ByteArray := ⟨#[118, 97, 108, 108, 111, 116, 116, 105]⟩
def nmY : ByteArray := ⟨#[121, 111, 117, 110, 103]⟩
def tmC (nm : ByteArray) (p s : List Int) : List Value := .string nm :: (p ++ s).map i64
def z12 : List Int := [0, 0, 0, 0, 0, 0, 0, 0, 0, 0, 0, 0]
def ixC (idx : List Nat) : List Value := idx.map (fun i : Nat => i64 (i : Int))
theorem each3 {d lim : Nat} {h : Heap} {n : Nat} (hn : n = h.length) {A : Option Blk} {o : Nat} {x : Int} {idx : List Nat} {cs : List Value} (hi : ∀ i ∈ idx, i < 12) (hl : idx.length ≤ 100) (ho : o + 12 ≤ cs.length) :
    E.call (d + 1) lim 124 [.pointer (some ⟨n + 1, o, none⟩), i64 x, .slice (some ⟨n + 2, 0, none⟩) idx.length 1] (h.freeze ++ [A, some ⟨cs, true⟩, some ⟨ixC idx, true⟩]) =
      some (.tuple #[], h.freeze ++ [A, some ⟨setAll (i64 x) o idx cs, true⟩, some ⟨ixC idx, true⟩]) := by
  have g1 : Heap.get (h.freeze ++ [A, some ⟨cs, true⟩, some ⟨ixC idx, true⟩]) (n + 1) = some ⟨cs, true⟩ := by rw [hget_base (by simp [hn])]; rfl
  have g2 : Heap.get (h.freeze ++ [A, some ⟨cs, true⟩, some ⟨ixC idx, true⟩]) (n + 2) = some ⟨ixC idx, true⟩ := by rw [hget_base (by simp [hn])]; rfl
  rw [c124 g1 g2 (by omega) hi hl ho, hput_base (by simp [hn])]
  rfl
def tpP : List Int := [0, 0, 0, 0, 0, 0, 0, 0, 12, 0, 0, 0]
def tsP : List Int := z12
theorem c57P {d lim : Nat} {h : Heap} : E.call (d + 2) lim 57 [.string nmP] h = some (.tuple #[.agg (tmC nmP tpP tsP).toArray, i64 0], h) := by
  refine call1 fn57 rfl (by simp [ef57]) ?_
  unfold nmP
  simp [ef57, tmC, z12, tpP, tsP]
theorem c58P {d lim : Nat} {h : Heap} : E.call (d + 1) lim 58 [.string nmP] h = some (.tuple #[.agg (tmC nmP tpP tsP).toArray, .bool true], h) := by
  refine call1 fn58 rfl (by simp [ef58]) ?_
  unfold nmP
  simp [ef58, wrapL, wpC_unroll, wpI_step, E_fuel, St.tidy, tmC, z12, tpP, tsP]
def tpE : List Int := [1, 1, 1, 1, 1, 1, 1, 1, 1, 1, 1, 1]
def tsE : List Int := z12
theorem c57E {d lim : Nat} {h : Heap} : E.call (d + 2) lim 57 [.string nmE] h = some (.tuple #[.agg (tmC nmE tpE tsE).toArray, i64 0], h) := by
  refine call1 fn57 rfl (by simp [ef57]) ?_
  unfold nmE
  have k := fun lim A nm => each3 (d := d) (lim := lim) (h := h) (n := h.length) rfl (A := A) (o := 1) (x := 1) (idx := [0, 1, 2, 3, 4, 5, 6, 7, 8, 9, 10, 11]) (cs := tmC nm z12 z12) (by decide) (by decide) (by simp [tmC, z12])
  simp [ixC, setAll, tmC, z12] at k
  simp [ef57, tmC, z12, tpE, tsE, k]
theorem c58E {d lim : Nat} {h : Heap} : E.call (d + 1) lim 58 [.string nmE] h = some (.tuple #[.agg (tmC nmE tpE tsE).toArray, .bool true], h) := by
  refine call1 fn58 rfl (by simp [ef58]) ?_
  unfold nmE
  simp [ef58, wrapL, wpC_unroll, wpI_step, E_fuel, St.tidy, tmC, z12, tpE, tsE]
def tpM : List Int := [0, 0, 0, 0, 0, 0, 0, 0, 12, 0, 0, 0]
def tsM : List Int := [3, 3, 3, 3, 3, 3, 3, 3, -33, 3, 3, 3]
theorem c57M {d lim : Nat} {h : Heap} : E.call (d + 2) lim 57 [.string nmM] h = some (.tuple #[.agg (tmC nmM tpM tsM).toArray, i64 0], h) := by
  refine call1 fn57 rfl (by simp [ef57]) ?_
  unfold nmM
  have k := fun lim A nm => each3 (d := d) (lim := lim) (h := h) (n := h.length) rfl (A := A) (o := 13) (x := 3) (idx := [0, 1, 2, 3, 4, 5, 6, 7, 9, 10, 11]) (cs := tmC nm z12 z12) (by decide) (by decide) (by simp [tmC, z12])
  simp [ixC, setAll, tmC, z12] at k
  simp [ef57, tmC, z12, tpM, tsM, k]
theorem c58M {d lim : Nat} {h : Heap} : E.call (d + 1) lim 58 [.string nmM] h = some (.tuple #[.agg (tmC nmM tpM tsM).toArray, .bool true], h) := by
  refine call1 fn58 rfl (by simp [ef58]) ?_
  unfold nmM
  simp [ef58, wrapL, wpC_unroll, wpI_step, E_fuel, St.tidy, tmC, z12, tpM, tsM]
def tpW : List Int := [3, 3, 3, 0, 0, 3, 0, 0, 0, 0, 0, 0]
def tsW : List Int := z12
theorem c57W {d lim : Nat} {h : Heap} : E.call (d + 2) lim 57 [.string nmW] h = some (.tuple #[.agg (tmC nmW tpW tsW).toArray, i64 0], h) := by
  refine call1 fn57 rfl (by simp [ef57]) ?_
  unfold nmW
  have k := fun lim A nm => each3 (d := d) (lim := lim) (h := h) (n := h.length) rfl (A := A) (o := 1) (x := 3) (idx := [0, 1, 2, 5]) (cs := tmC nm z12 z12) (by decide) (by decide) (by simp [tmC, z12])
  simp [ixC, setAll, tmC, z12] at k
  simp [ef57, tmC, z12, tpW, tsW, k]
theorem c58W {d lim : Nat} {h : Heap} : E.call (d + 1) lim 58 [.string nmW] h = some (.tuple #[.agg (tmC nmW tpW tsW).toArray, .bool true], h) := by
  refine call1 fn58 rfl (by simp [ef58]) ?_
  unfold nmW
  simp [ef58, wrapL, wpC_unroll, wpI_step, E_fuel, St.tidy, tmC, z12, tpW, tsW]
def tpK : List Int := [0, 0, 0, 0, 0, 0, 12, 0, 0, 0, 0, 0]
def tsK : List Int := [3, 3, 3, 3, 0, 0, -12, 0, 0, 0, 0, 0]
theorem c57K {d lim : Nat} {h : Heap} : E.call (d + 2) lim 57 [.string nmK] h = some (.tuple #[.agg (tmC nmK tpK tsK).toArray, i64 0], h) := by
  refine call1 fn57 rfl (by simp [ef57]) ?_
  unfold nmK
  have k := fun lim A nm => each3 (d := d) (lim := lim) (h := h) (n := h.length) rfl (A := A) (o := 13) (x := 3) (idx := [0, 1, 2, 3]) (cs := tmC nm z12 z12) (by decide) (by decide) (by simp [tmC, z12])
  simp [ixC, setAll, tmC, z12] at k
  simp [ef57, tmC, z12, tpK, tsK, k]
theorem c58K {d lim : Nat} {h : Heap} : E.call (d + 1) lim 58 [.string nmK] h = some (.tuple #[.agg (tmC nmK tpK tsK).toArray, .bool true], h) := by
  refine call1 fn58 rfl (by simp [ef58]) ?_
  unfold nmK
  simp [ef58, wrapL, wpC_unroll, wpI_step, E_fuel, St.tidy, tmC, z12, tpK, tsK]
def tpV : List Int := [2, 2, 2, 2, 2, 0, 0, 0, 0, 0, 0, 2]
def tsV : List Int := z12
theorem c57V {d lim : Nat} {h : Heap} : E.call (d + 2) lim 57 [.string nmV] h = some (.tuple #[.agg (tmC nmV tpV tsV).toArray, i64 0], h) := by
  refine call1 fn57 rfl (by simp [ef57]) ?_
  unfold nmV
  have k := fun lim A nm => each3 (d := d) (lim := lim) (h := h) (n := h.length) rfl (A := A) (o := 1) (x := 2) (idx := [11, 0, 1, 2, 3, 4]) (cs := tmC nm z12 z12) (by decide) (by decide) (by simp [tmC, z12])
  simp [ixC, setAll, tmC, z12] at k
  simp [ef57, tmC, z12, tpV, tsV, k]
theorem c58V {d lim : Nat} {h : Heap} : E.call (d + 1) lim 58 [.string nmV] h = some (.tuple #[.agg (tmC nmV tpV tsV).toArray, .bool true], h) := by
  refine call1 fn58 rfl (by simp [ef58]) ?_
  unfold nmV
  simp [ef58, wrapL, wpC_unroll, wpI_step, E_fuel, St.tidy, tmC, z12, tpV, tsV]
def tpY : List Int := [2, 2, 2, 2, 2, 2, 0, 0, 0, 0, 0, 0]
def tsY : List Int := z12
theorem c57Y {d lim : Nat} {h : Heap} : E.call (d + 2) lim 57 [.string nmY] h = some (.tuple #[.agg (tmC nmY tpY tsY).toArray, i64 0], h) := by
  refine call1 fn57 rfl (by simp [ef57]) ?_
  unfold nmY
  have k := fun lim A nm => each3 (d := d) (lim := lim) (h := h) (n := h.length) rfl (A := A) (o := 1) (x := 2) (idx := [0, 1, 2, 3, 4, 5]) (cs := tmC nm z12 z12) (by decide) (by decide) (by simp [tmC, z12])
  simp [ixC, setAll, tmC, z12] at k
  simp [ef57, tmC, z12, tpY, tsY, k]
theorem c58Y {d lim : Nat} {h : Heap} : E.call (d + 1) lim 58 [.string nmY] h = some (.tuple #[.agg (tmC nmY tpY tsY).toArray, .bool true], h) := by
  refine call1 fn58 rfl (by simp [ef58]) ?_
  unfold nmY
  simp [ef58, wrapL, wpC_unroll, wpI_step, E_fuel, St.tidy, tmC, z12, tpY, tsY]
end T
end Go.Abs
