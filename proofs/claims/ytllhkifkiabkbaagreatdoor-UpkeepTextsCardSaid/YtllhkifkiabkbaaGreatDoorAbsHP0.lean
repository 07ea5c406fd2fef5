/- upkeep.Print, walked: its Builder by the shelf's contracts. -/
import Derived.Test.YtllhkifkiabkbaaGreatDoorAbsHSh
import Derived.Shelf.Strings.BuilderF
import Derived.WalkKit
import Derived.BigCall
import Derived.Lib.Hide
import Derived.StillTailTactics
set_option linter.unusedSimpArgs false
set_option linter.unusedVariables false
namespace Go.Proofs
open Go Go.RowKit Go.Extern.Stop Go.Stop Go.Extern Go.Shelf
/-- Where the six numbers of the counts lie. -/
def CellsAt (w : World) (b o : Nat) (V : Nat → Nat → Int) (n : Nat) : Prop := ∀ i j, i < n → j < 6 → w.cell? ⟨b, o + i * 6 + j, none⟩ = some (.int .i64 (V i j))
def accU (T : Nat → List UInt8) (k : Nat) : List UInt8 := (List.range k).flatMap fun i => T i ++ [10]
theorem accU_succ (T : Nat → List UInt8) (k : Nat) : accU T (k + 1) = accU T k ++ (T k ++ [10]) := by simp [accU, List.range_succ]
theorem Tryz.lays166 : Go.Proofs.Lays.n166 Tryz.prog Tryz.lays156_ren := { Tryz.lays156 with }
theorem Tryz.writeString (B b : Nat) (bs : List Value) (s : ByteArray) (w : World) (h : Lib.IsBuilderF 88 5 B b bs w) (hlen : bs.length + s.size ≤ 140737488355328) (hBw : B ≤ w.heap.size) :
    Calls Tryz.prog 38 #[.pointer (some ⟨b, 0, none⟩), .string s] w fun e w' => e = .returned (.tuple #[.int .i64 s.size, .nilIface]) ∧ (Lib.BuilderAtF 88 5 B b (.pointer (some ⟨b, 0, none⟩)) (bs ++ Lib.strCells s) w' ∧ Below B w w') := Any.Builder_WriteString_f Tryz.lays166 Tryz.Builder_Extra_156 B b bs s w h hlen hBw
theorem Tryz.stringAny (B b : Nat) (l : List UInt8) (w : World) (h : Lib.IsBuilderF 88 5 B b (Lib.byteCells l) w) (hBw : B ≤ w.heap.size) :
    Calls Tryz.prog 40 #[.pointer (some ⟨b, 0, none⟩)] w fun e w' => e = .returned (.string ⟨l.toArray⟩) ∧ (Lib.IsBuilderF 88 5 B b (Lib.byteCells l) w' ∧ Below B w w') := Any.Builder_String_any_f Tryz.lays169 Tryz.Builder_Extra_169 B b l w h hBw
theorem bF_below {T e : TypeId} {B b : Nat} {bs : List Value} {W W' : World} (h : Lib.IsBuilderF T e B b bs W) (hb : Below W.heap.size W W') : Lib.IsBuilderF T e B b bs W' := by
  have one : ∀ p, Lib.BuilderAtF T e B b p bs W → Lib.BuilderAtF T e B b p bs W' := by
    rintro p ⟨hB, v, hbk, hown, hne⟩
    refine ⟨hB, v, ?_, hown.kept (row := none) ⟨hb.os, hb.tape, hb.output, hb.size, fun k hk _ => hb.block k hk⟩ ?_, hne⟩
    · rw [hb.block b (Array.getElem?_eq_some_iff.1 hbk).1]; exact hbk
    · rcases q : v.ownBlock with _ | g
      · exact .inl rfl
      · exact .inr (by simp)
  exact h.elim (fun x => .inl (one _ x)) (fun x => .inr (one _ x))
theorem below_low {B B' : Nat} {w w' : World} (b : Below B w w') (h : B' ≤ B) : Below B' w w' := ⟨b.os, b.tape, b.output, b.size, fun k hk => b.block k (Nat.lt_of_lt_of_le hk h)⟩
theorem printU_walk (w : World) (b o n c : Nat) (V : Nat → Nat → Int) (T : Nat → List UInt8) (hV : CellsAt w b o V n) (hn : n ≤ 1000000) (hT : ∀ k, k < n → (accU T k).length + ((T k).length + 1) ≤ 140737488355328)
    (h61 : Calls Tryz.prog 61 #[.slice (some ⟨b, o, none⟩) n c] w fun e w' => e = .returned (.int .i64 0) ∧ Below w.heap.size w w')
    (h59 : ∀ (w1 : World) (k i : Nat), i < n → Below w.heap.size w w1 → w1.heap[k]? = some (.cells #[.int .i64 (V i 0), .int .i64 (V i 1), .int .i64 (V i 2), .int .i64 (V i 3), .int .i64 (V i 4), .int .i64 (V i 5)] 3 (0, 0)) →
      Calls Tryz.prog 59 #[.slice (some ⟨k, 0, none⟩) 6 6] w1 fun e w' => e = .returned (.string ⟨(T i).toArray⟩) ∧ Below w1.heap.size w1 w') :
    Calls Tryz.prog 25 #[.slice (some ⟨b, o, none⟩) n c] w fun e w' => e = .returned (.tuple #[.string ⟨(accU T n).toArray⟩, .int .i64 0]) ∧ Below w.heap.size w w' := by
  go_enter Tryz.func25, Tryz.ntmps25
  go_wp2_with (go_at_call 61; refine h61.mono ?_; rintro e w1 ⟨rfl, b1⟩)
  obtain ⟨W, hW⟩ : ∃ W, W = w1 := ⟨_, rfl⟩
  have h0 : Lib.IsBuilderF 88 5 w1.heap.size w1.heap.size (Lib.byteCells []) (w1.alloc (.cells #[.pointer none, .slice none 0 0] 88)) := Lib.IsBuilderF.of (Lib.fresh_isBuilder 88 5 w1)
  have b0 : Below w1.heap.size w1 (w1.alloc (.cells #[.pointer none, .slice none 0 0] 88)) := (Below.refl _ w1).alloc (Nat.le_refl _) _
  clear hW W
  go_wp2
  go_loopw [15] (fun iv wr => ∃ k : Nat, iv = .int .i64 k ∧ k ≤ n ∧ Lib.IsBuilderF 88 5 w1.heap.size w1.heap.size (Lib.byteCells (accU T k)) wr ∧ Below w1.heap.size w1 wr) (fun iv _ => n - (intOf iv).toNat)
  case atStart => exact ⟨0, rfl, Nat.zero_le _, h0, b0⟩
  case round =>
    obtain ⟨k, rfl, hk, hI, hnx⟩ := hrel
    by_cases hlt : k < n
    · have hlt' : (k : Int) < n := by omega
      have hlt0 : 0 ≤ (k : Int) ∧ (k : Int) < n := by omega
      have cc : ∀ j, j < 6 → wr.cell? ⟨b, o + k * 6 + j, none⟩ = some (.int .i64 (V k j)) := fun j hj => by
        have c1 := hV k j hlt hj
        have l1 := World.block_lt_of_cell? _ _ c1
        exact (hnx.cell (p := ⟨b, o + k * 6 + j, none⟩) (Nat.lt_of_lt_of_le l1 b1.size)).trans ((b1.cell (p := ⟨b, o + k * 6 + j, none⟩) l1).trans c1)
      have c0 : wr.cell? ⟨b, o + k * 6, none⟩ = some (.int .i64 (V k 0)) := cc 0 (by decide)
      have c1 := cc 1 (by decide)
      have c2 := cc 2 (by decide)
      have c3 := cc 3 (by decide)
      have c4 := cc 4 (by decide)
      have c5 := cc 5 (by decide)
      have HT := Lib.hid hT
      clear cc hV h61 hT
      have H9 := Lib.hid h59
      clear h59
      have hsz := hnx.size
      have bb := b1.size
      have B2 : Below w1.heap.size w1 ((wr.alloc (.cells #[.int .i64 (V k 0), .int .i64 (V k 1), .int .i64 (V k 2), .int .i64 (V k 3), .int .i64 (V k 4), .int .i64 (V k 5)] 123)).alloc (.cells #[.int .i64 (V k 0), .int .i64 (V k 1), .int .i64 (V k 2), .int .i64 (V k 3), .int .i64 (V k 4), .int .i64 (V k 5)] 3)) := (hnx.alloc hsz _).alloc (by simp; omega) _
      have I2 := bF_below hI (((Below.refl wr.heap.size wr).alloc (Nat.le_refl _) (.cells #[.int .i64 (V k 0), .int .i64 (V k 1), .int .i64 (V k 2), .int .i64 (V k 3), .int .i64 (V k 4), .int .i64 (V k 5)] 123)).alloc (by simp) (.cells #[.int .i64 (V k 0), .int .i64 (V k 1), .int .i64 (V k 2), .int .i64 (V k 3), .int .i64 (V k 4), .int .i64 (V k 5)] 3))
      have hcell : ((wr.alloc (.cells #[.int .i64 (V k 0), .int .i64 (V k 1), .int .i64 (V k 2), .int .i64 (V k 3), .int .i64 (V k 4), .int .i64 (V k 5)] 123)).alloc (.cells #[.int .i64 (V k 0), .int .i64 (V k 1), .int .i64 (V k 2), .int .i64 (V k 3), .int .i64 (V k 4), .int .i64 (V k 5)] 3)).heap[wr.heap.size + 1]? = some (.cells #[.int .i64 (V k 0), .int .i64 (V k 1), .int .i64 (V k 2), .int .i64 (V k 3), .int .i64 (V k 4), .int .i64 (V k 5)] 3) := by rw [show wr.heap.size + 1 = (wr.alloc (.cells #[.int .i64 (V k 0), .int .i64 (V k 1), .int .i64 (V k 2), .int .i64 (V k 3), .int .i64 (V k 4), .int .i64 (V k 5)] 123)).heap.size from (Array.size_push ..).symm]; exact heap_alloc_new _ _
      have C9 := H9.out _ (wr.heap.size + 1) k hlt (b1.trans (below_low B2 bb)) hcell
      have nb : ¬ 9223372036854775807 < (T k).length + 1 := by have := HT.out k hlt; omega
      go_wp2_with (go_at_call 59; refine C9.mono ?_; rintro e w2 ⟨rfl, b2⟩)
      have hsz2 := B2.size
      have hsz3 := b2.size
      have I3 := bF_below I2 b2
      have B3 := B2.trans (below_low b2 hsz2)
      have z1 : (⟨(T k).toArray⟩ : ByteArray).size = (T k).length := rfl
      have z2 : (⟨#[10]⟩ : ByteArray).size = 1 := rfl
      have sc : Lib.strCells (⟨(T k).toArray⟩ ++ ⟨#[10]⟩ : ByteArray) = Lib.byteCells (T k ++ [10]) := by rw [Lib.strCells_eq]; congr 1
      have W9 := Tryz.writeString w1.heap.size w1.heap.size _ (⟨(T k).toArray⟩ ++ ⟨#[10]⟩) w2 I3 (by rw [Lib.byteCells_length, ByteArray.size_append, z1, z2]; exact HT.out k hlt) (Nat.le_trans B2.size hsz3)
      rw [sc, ← Lib.byteCells_append, ← accU_succ] at W9
      have S9 := Lib.hid sc
      clear sc C9 I2 I3 z1 z2
      go_wp2_with (go_at_call 38; go_loud (refine W9.mono ?_; rintro e w3 ⟨rfl, b3, b4⟩))
      have R3 : Below w1.heap.size w1 w3 := B3.trans b4
      have R4 : Lib.IsBuilderF 88 5 w1.heap.size w1.heap.size (Lib.byteCells (accU T (k + 1))) w3 := .inr b3
      clear b3 b4 B3 B2 b2 S9 W9
      go_wp2_with fail
      exact ⟨⟨k + 1, rfl, hlt, R4, R3⟩, by simp [intOf]; omega⟩
    · have hlt' : ¬ (k : Int) < n := by omega
      obtain rfl : k = n := by omega
      go_wp2_with (go_at_call 40; refine (Tryz.stringAny _ _ _ _ hI hnx.size).mono ?_; rintro e w3 ⟨rfl, _, b3⟩)
      go_ret2
      exact ⟨rfl, b1.trans (below_low (hnx.trans b3) b1.size)⟩
theorem printU_walk0 (w : World) (a : Option Addr) (c : Nat) (h61 : Calls Tryz.prog 61 #[.slice a 0 c] w fun e w' => e = .returned (.int .i64 0) ∧ Below w.heap.size w w') :
    Calls Tryz.prog 25 #[.slice a 0 c] w fun e w' => e = .returned (.tuple #[.string ⟨#[]⟩, .int .i64 0]) ∧ Below w.heap.size w w' := by
  go_enter Tryz.func25, Tryz.ntmps25
  go_wp2_with (go_at_call 61; refine h61.mono ?_; rintro e w1 ⟨rfl, b1⟩)
  have h0 : Lib.IsBuilderF 88 5 w1.heap.size w1.heap.size (Lib.byteCells []) (w1.alloc (.cells #[.pointer none, .slice none 0 0] 88)) := Lib.IsBuilderF.of (Lib.fresh_isBuilder 88 5 w1)
  have b0 : Below w1.heap.size w1 (w1.alloc (.cells #[.pointer none, .slice none 0 0] 88)) := (Below.refl _ w1).alloc (Nat.le_refl _) _
  go_wp2
  refine wp_loop_rounds 1 ?_
  rw [rounds_succ]
  go_wp2_with (go_at_call 40; refine (Tryz.stringAny _ _ _ _ h0 b0.size).mono ?_; rintro e w3 ⟨rfl, _, b3⟩)
  go_ret2
  exact ⟨rfl, b1.trans (below_low (b0.trans b3) b1.size)⟩
theorem printU_err (w : World) (v : Value) (x : Int) (hx : x ≠ 0) (h61 : Calls Tryz.prog 61 #[v] w fun e w' => e = .returned (.int .i64 x) ∧ Below w.heap.size w w') :
    Calls Tryz.prog 25 #[v] w fun e w' => e = .returned (.tuple #[.string ⟨#[]⟩, .int .i64 x]) ∧ Below w.heap.size w w' := by
  have hb : (x != 0) = true := by simpa using hx
  go_enter Tryz.func25, Tryz.ntmps25
  go_wp2_with (go_at_call 61; refine h61.mono ?_; rintro e w1 ⟨rfl, b1⟩)
  go_wp2
  go_ret2
  exact ⟨rfl, b1⟩
end Go.Proofs
