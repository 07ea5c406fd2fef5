/- upkeep.Print for the evaluator: its contract. -/
import Derived.Test.YtllhkifkiabkbaaGreatDoorAbsHP0
import Derived.Test.YtllhkifkiabkbaaGreatDoorAbsHOk
import Derived.Test.YtllhkifkiabkbaaGreatDoorAbsHY0
import Derived.Test.YtllhkifkiabkbaaGreatDoorAbsNat4
set_option linter.unusedSimpArgs false
set_option linter.unusedVariables false
/- upkeep.Print for the evaluator: its contract. -/
namespace Go.Abs
namespace H.U
open Go.RowKit
set_option maxRecDepth 100000
set_option maxHeartbeats 400000
set_option linter.unusedSimpArgs false
def vU (l : List P6) (i j : Nat) : Int := (six (at6 l i))[j]?.getD 0
def tU (l : List P6) (i : Nat) : List UInt8 := rowL (six (at6 l i))
theorem accU_prU (l : List P6) : ∀ n, Go.Proofs.accU (tU l) n = prU l n
  | 0 => rfl
  | n + 1 => by rw [Go.Proofs.accU_succ, accU_prU l n]; rfl
theorem onlyB_sl {n b m : Nat} {l : List P6} (h : b < n) (hm : m = l.length) : Sl6 (onlyB n b ⟨cS enc6 l, false⟩) (.slice (some ⟨b, 0, none⟩) m 6) l := Sl_own (f := enc6) (es := 6) (fun _ => rfl) (onlyB_get h) hm
theorem onlyB_dead {K : LoopKind} {Own : Nat → Prop} {ρ : Ren} {w : World} {n : Nat} {k : Blk} : Sim K Own ρ (onlyB n n k).get w := by
  have g : ∀ i c, (onlyB n n k).get i = some c → False := fun i c e => by
    by_cases q : i = n
    · subst q
      unfold Heap.get onlyB at e
      rw [List.getElem?_eq_none (by simp)] at e; cases e
    · rw [onlyB_none q] at e; cases e
  exact ⟨fun i c L e => (g i c e).elim, fun i c L e => (g i c e).elim, fun i j c c2 L M _ e => (g i c e).elim⟩
/-- The row of a count, by the smaller table. -/
theorem row59 {w w1 : World} {Own : Nat → Prop} {ρ : Ren} {n k : Nat} {x : P6} (hx : R6 x) (hg : GlobOk E.glob ρ) (hla : LaidOk Go.Proofs.Tryz.prog E.glob Own w) (hown : ∀ k, w.heap.size ≤ k → Own k) (hd : ∀ i L, ρ i = some L → i < n)
    (b1 : Below w.heap.size w w1) (hk : w1.heap[k]? = some (.cells #[i64 x.1.1, i64 x.1.2.1, i64 x.1.2.2.1, i64 x.1.2.2.2, i64 x.2.1, i64 x.2.2] 3 (0, 0))) :
    Calls Go.Proofs.Tryz.prog 59 #[.slice (some ⟨k, 0, none⟩) 6 6] w1 fun e w' => e = .returned (.string ⟨(rowL (six x)).toArray⟩) ∧ Below w1.heap.size w1 w' := by
  have hn : ρ n = none := by
    rcases q : ρ n with _ | L
    · rfl
    · exact absurd (hd _ _ q) (by omega)
  let L : Loc := ⟨k, 0, 6, false⟩
  have hle : ρ.le (upd ρ n L) := le_upd hn
  have hup : upd ρ n L n = some L := by simp [upd]
  have c := c59 (d := 0) (lim := (onlyB (n + 1) n ⟨cI (six x), false⟩).length) (SlI'_own (onlyB_get (n := n + 1) (b := n) (k := ⟨cI (six x), false⟩) (by omega)) (n := 6) rfl) (by simp [six]) (by simp [six]) hx
  refine e0_call E_ok (ρ := upd ρ n L) (args := [.slice (some ⟨k, 0, none⟩) 6 6]) c (SameV.plain rfl) ?_ ?_ (fun K => onlyB_sim hup rfl ?_) ?_ ?_
  · intro g i e
    obtain ⟨M, m1, m2⟩ := hg g i e
    exact ⟨M, hle _ _ m1, m2⟩
  · exact (hla.frame (below_frame b1)).own fun i hi q => absurd hi (by omega)
  · refine ⟨_, _, _, hk, by show (0 : Nat) + 6 ≤ 6; omega, by show 6 ≤ 6; omega, (fun q => by cases q), fun i v hv => ⟨v, ?_, ?_⟩⟩
    · show _ = some v
      rw [← hv]
      simp [L, cI, six]
    · refine .plain ?_
      have := List.mem_of_getElem? hv
      simp only [cI, List.mem_map] at this
      obtain ⟨z, _, rfl⟩ := this
      rfl
  · intro i M e
    rw [onlyB_len]
    by_cases q : i = n
    · omega
    · have := hd i M (by simpa [upd, q] using e); omega
  · refine ⟨VRel.slice (L := L) hup (by omega) rfl (fun _ => rfl) (fun q => by cases q) (fun _ => ⟨rfl, by show 0 + 6 * 1 ≤ 6; omega⟩) (by unfold maxLen; omega), trivial⟩
theorem okPrintU {K : LoopKind} (lim : Nat) (vs : List Value) (h : Heap) (v : Value) (h' : Heap) (_ : lim ≤ h.length) (hN : natPrintU vs h = some (v, h')) : CallOk Go.Proofs.Tryz.prog K E.glob 25 lim vs h v h' := by
  have fin : ∀ {ρ : Ren} {w : World} {Own : Nat → Prop} {args : List Value} {l : List P6}, Sim K Own ρ h.get w → (∀ i L, ρ i = some L → i < h.length) →
      (Calls Go.Proofs.Tryz.prog 25 args.toArray w fun e w' => e = .returned (prVU l) ∧ Below w.heap.size w w') →
      Calls Go.Proofs.Tryz.prog 25 args.toArray w fun e w' => ∃ v' ρ', e = .returned v' ∧ (∀ i, i < h.length → ρ' i = ρ i) ∧ VRel ρ' (prVU l) v' ∧ Sim K Own ρ' h.get w' ∧ (∀ i L, ρ' i = some L → i < h.length) ∧
        (∀ i L, ρ' i = some L → h.length ≤ i → Own L.blk ∧ L.blk < w'.heap.size) ∧ Frame Own w w' := by
    intro ρ w Own args l hsim hd hc
    refine hc.mono ?_
    rintro e w' ⟨rfl, bl⟩
    refine ⟨_, ρ, rfl, fun _ _ => rfl, ?_, hsim.same (below_same bl), hd, fun i L q1 q2 => absurd (hd i L q1) (by omega), below_frame bl⟩
    unfold prVU
    split
    · exact VRel.tuple_mk (xs := [tx (prU l l.length), i64 0]) (ys := [tx (prU l l.length), i64 0]) ⟨.plain rfl, .plain rfl, trivial⟩
    · exact VRel.tuple_mk (xs := [tx [], i64 (chkN l)]) (ys := [tx [], i64 (chkN l)]) ⟨.plain rfl, .plain rfl, trivial⟩
  unfold natPrintU at hN
  split at hN
  · cases hN
    refine ⟨by kernel_rfl, Nat.le_refl _, .refl _ _, fun ρ w Own args hown hg hs hd hr => fin hs hd ?_⟩
    match args, hr with
    | [x], hr =>
      obtain rfl := hr.1.plain_inv rfl
      have c := c61 (d := 0) (lim := (onlyB h.length h.length ⟨[], false⟩).length) (h := onlyB h.length h.length ⟨[], false⟩) (v := .slice none 0 0) (l := []) (sl6_nil _)
      have k := e0_call E_ok (vs := [.slice none 0 0]) (v := i64 (chkN [])) (ρ := ρ) (w := w) (args := [.slice none 0 0]) c (SameV.plain rfl) hg.1 (hg.2.own fun i hi q => absurd hi (by omega)) (fun K => onlyB_dead (k := ⟨[], false⟩)) (by rw [onlyB_len]; exact hd) ⟨.plain rfl, trivial⟩
      have e0 : chkN [] = 0 := by unfold chkN; rw [if_neg (by simp), fstE_ge (by simp)]
      rw [e0] at k
      have e1 : prVU [] = .tuple #[tx (prU [] 0), i64 0] := by unfold prVU; rw [if_pos e0]; rfl
      rw [e1]
      exact Go.Proofs.printU_walk0 w none 0 k
  · rename_i b n
    split at hN
    · rename_i blk hb
      split at hN
      · rename_i l hdec
        split at hN
        · rename_i hlen
          cases hN
          obtain ⟨cells, rw0⟩ := blk
          obtain rfl := decU_inv _ (Nat.le_refl _) hdec
          have cl : (cS enc6 l).length = l.length * 6 := c6_ln l
          refine ⟨by kernel_rfl, Nat.le_refl _, .refl _ _, fun ρ w Own args hown hg hs hd hr => fin hs hd ?_⟩
          match args, hr with
          | [x], hr =>
            have hrx := hr.1
            obtain ⟨L, a, cap, hL, rfl, hn, ha, hsp, hz0, hcc, hm⟩ := hr.1.slice_inv
            have hbl : b < h.length := hd b L hL
            have hk := hr.1.slice_map hL
            have ck := (hs.blk b _ L hb hL).1 hk
            have hla : LaidOk Go.Proofs.Tryz.prog E.glob (w.heap.size ≤ ·) w := hg.2.own fun i hi q => absurd hi (by omega)
            have ck0 : CellsOk ρ L ⟨cS enc6 l, false⟩ w.heap[L.blk]? := by
              obtain ⟨cur, e, fz, c1, c2, c3, c4, c5⟩ := ck
              exact ⟨cur, e, fz, c1, c2, c3, (fun q => by cases q), c5⟩
            have c := c61 (d := 0) (lim := (onlyB h.length b ⟨cS enc6 l, false⟩).length) (onlyB_sl hbl hlen.symm)
            have k := e0_call E_ok (vs := [.slice (some ⟨b, 0, none⟩) n 6]) (v := i64 (chkN l)) (ρ := ρ) (w := w) (args := [.slice (some a) n cap]) c (SameV.plain rfl) hg.1 hla (fun K => onlyB_sim hL hk ck0) (by rw [onlyB_len]; exact hd) ⟨hrx, trivial⟩
            by_cases hz : chkN l = 0
            · rw [hz] at k
              have e1 : prVU l = .tuple #[tx (prU l l.length), i64 0] := by unfold prVU; rw [if_pos hz]
              rw [e1]
              rcases Nat.eq_zero_or_pos n with n0 | n0
              · subst n0
                obtain rfl : l = [] := List.length_eq_zero_iff.1 hlen
                exact Go.Proofs.printU_walk0 w (some a) cap k
              · have q : cap ≠ 0 := by omega
                obtain ⟨hoff, htot⟩ := hcc q
                have hspot := hsp q
                obtain ⟨ab, ao, asp⟩ := a
                simp only at ha hoff hspot
                subst ha hoff hspot
                have l60 := chkN_le hz
                have wk := Go.Proofs.printU_walk w L.blk (L.off + 0) n cap (vU l) (tU l) ?h1 (by omega) ?h2 k ?h3
                case h1 =>
                  intro i j hi hj
                  obtain ⟨cur, e, fz, c1, c2, c3, c4, c5⟩ := ck
                  have g : (cS enc6 l)[i * 6 + j]? = some (i64 (vU l i j)) := by
                    have p := c6_part (l := l) (i := i) (by omega)
                    have p2 := congrArg (fun z => z[j]?) p
                    simp only [List.getElem?_take_of_lt hj, List.getElem?_drop] at p2
                    rw [p2]
                    unfold vU
                    rcases at6 l i with ⟨⟨n1, n2, n3, n4⟩, n5, n6⟩
                    rcases j with _ | _ | _ | _ | _ | _ | j <;> first | rfl | omega
                  obtain ⟨v', q1, q2⟩ := c5 _ _ g
                  obtain rfl := q2.plain_inv rfl
                  simp only [World.cell?, c1]
                  rw [Nat.add_zero, Nat.add_assoc]
                  exact q1
                case h2 =>
                  intro i hi
                  rw [accU_prU]
                  have p1 := prU_len (l := l) (fun j hj => chkN_R6 hz hj) (i + 1) (by omega)
                  have : prU l (i + 1) = prU l i ++ (rowL (six (at6 l i)) ++ [10]) := rfl
                  rw [this] at p1
                  show _ + ((rowL (six (at6 l i))).length + 1) ≤ _
                  simp only [List.length_append, List.length_singleton] at p1
                  omega
                case h3 =>
                  intro w1 k1 i hi b1 hk1
                  exact row59 (chkN_R6 hz (by omega)) hg.1 hg.2 hown hd b1 hk1
                rw [accU_prU] at wk
                have e5 : prU l l.length = prU l n := by rw [hlen]
                rw [e5]
                exact wk
            · have e1 : prVU l = .tuple #[tx [], i64 (chkN l)] := by unfold prVU; rw [if_neg hz]
              rw [e1]
              exact Go.Proofs.printU_err w _ _ hz k
        · cases hN
      · cases hN
    · cases hN
  · cases hN
end H.U
end Go.Abs
/- The table with Print is sound. -/
namespace Go.Abs
namespace H.U
theorem E1_ok : ProgOk Go.Proofs.Tryz.prog E1 := ⟨E_ok.mix, fun f F h => by
  replace h : (if f = 25 then some efP else E.fn f) = some F := h
  by_cases q : f = 25
  · subst q
    rw [if_pos rfl] at h
    cases h
    exact .inr ⟨natPrintU, rfl, okPrintU⟩
  · rw [if_neg q] at h
    exact E_fns _ f F h⟩
end H.U
end Go.Abs
