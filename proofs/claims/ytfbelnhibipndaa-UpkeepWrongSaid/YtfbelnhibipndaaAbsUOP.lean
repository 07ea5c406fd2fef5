/- Sets of notes: small things. -/
import Derived.Test.YtfbelnhibipndaaAbsUON
import Derived.Test.YtfbelnhibipndaaAbsWpO
import Derived.Test.YtfbelnhibipndaaAbsUN0
set_option linter.unusedSimpArgs false
set_option linter.unusedVariables false
/- Sets of notes: small things. -/
namespace Go.Abs
/-- What a function that keeps all blocks must give. -/
def KFull (rs : List ERes) (v : Value) (h' : Heap) : Ex → St → Prop
  | .exit _, _ => False
  | _, st => (wpV (rs.mapM (ERes.get st)) fun vs => retVal vs = v) ∧ st.h = h'
@[simp ↓] theorem KFull_normal {rs : List ERes} {v : Value} {h' : Heap} {st : St} : KFull rs v h' .normal st = ((wpV (rs.mapM (ERes.get st)) fun vs => retVal vs = v) ∧ st.h = h') := rfl
@[simp ↓] theorem KFull_ret {rs : List ERes} {v : Value} {h' : Heap} {st : St} : KFull rs v h' .ret st = ((wpV (rs.mapM (ERes.get st)) fun vs => retVal vs = v) ∧ st.h = h') := rfl
theorem call_full {E : EProg} {f : FuncId} {F : EFun} (hf : E.fn f = some F) (hm : F.mode = .full) {args : List Value} (hl : args.length ≤ F.n) {d lim : Nat} {h h' : Heap} {v : Value}
    (hw : wpC ⟨EProg.call E d, h.length, lim, false, E.glob, E.fuel, EProg.roundOf E (EProg.call E d)⟩ F.code ⟨argFrame 0 args, h⟩ (KFull F.results v h')) :
    E.call (d + 1) lim f args h = some (v, h') := by
  obtain ⟨⟨e, st⟩, hr, hq⟩ := hw
  simp only [EProg.call, hf, hm, EFun.run, if_pos hl, hr]
  cases e with
  | exit id => exact hq.elim
  | normal => obtain ⟨⟨vs, h1, h2⟩, h3⟩ := hq; simp at h1 h2 h3; simp [h1, h2, h3]
  | ret => obtain ⟨⟨vs, h1, h2⟩, h3⟩ := hq; simp at h1 h2 h3; simp [h1, h2, h3]
namespace U
set_option maxRecDepth 100000
set_option maxHeartbeats 0
set_option linter.unusedSimpArgs false
theorem c118 {d lim b n : Nat} {h : Heap} {l : List Int} (s : SlI' h (vS b n) l) (hl : l.length ≤ 100000) : E.call (d + 1) lim 118 [vS b n] h = some (vS h.length l.length, h ++ [some ⟨cI l, true⟩]) := by
  refine call_pure fn118 rfl (by simp [ef118]) ?_
  have A1 := fun (hn : l.length ≠ 0) => app_some (bytes := 8) (b := h.length) (H := h.freeze ++ [some ⟨[], true⟩]) ((Sl_freeze.2 s).app _) hn (by omega) (by rw [hget_base0 (by simp)]; rfl) (one_cI l) (by omega) (by omega)
  have A0 := fun (hn : l.length = 0) => app_none (es := 1) (bytes := 8) (b := h.length) (H := h.freeze ++ [some ⟨[], true⟩]) (cs := cI l) (by have := (Sl_freeze.2 s).app [some ⟨[], true⟩]; rwa [hn] at this) (by omega)
  rcases Nat.eq_zero_or_pos l.length with hz | hz
  · have e0 : cI l = [] := by rw [List.eq_nil_of_length_eq_zero hz]; rfl
    simp [ef118, zeros, fillL, A0, hz, e0, Blk_addrs_nil, Blk_ren_nil]
  · have n0 : l.length ≠ 0 := by omega
    simp [ef118, zeros, fillL, A1, n0]
theorem c93 {d lim b n : Nat} {h : Heap} {k : Int} (hb : b < h.length) : E.call (d + 1) lim 93 [vS b n, i64 k] h = some (.func (.func 116) #[] #[pB h.length, pB (h.length + 1)], h ++ [some ⟨[i64 k], true⟩, some ⟨[vS b n], true⟩]) := by
  refine call_pure fn93 rfl (by simp [ef93]) ?_
  simp [ef93, hb]
/-- The record of the loop in Least. -/
abbrev rec61 (n : Nat) (st : Int) : Option Blk := some ⟨.int .i64 (61 : Nat) :: .int .i64 (0 : Nat) :: .int .i64 st :: [pB n, pB (n + 1), pB (n + 3)], true⟩
theorem set_id {α : Type} {L : List α} {i : Nat} {x : α} (h : L[i]? = some x) : L.set i x = L := by
  apply List.ext_getElem?
  intro j
  rw [List.getElem?_set]
  split
  · rename_i e; subst e
    split
    · exact h.symm
    · rename_i k; rw [List.getElem?_eq_none (by omega)] at h; cases h
  · rfl
/-- One set is looked at: it is no explanation. -/
theorem r61n {d lim c m : Nat} {h : Heap} {v w ov : Value} {l : List P4} {F S : List Int} {L : List (Option Blk)} {rw_ : Bool} (s : Sl4 h v l) (t : SlI' h w F) (O : AscL F) (hl : l.length ≤ 1000) (hf : F.length ≤ 1000) (hs : S.length ≤ 1000)
    (e0 : L[0]? = some (some ⟨[v], true⟩)) (e1 : L[1]? = some (some ⟨[w], true⟩)) (e3 : L[3]? = some (some ⟨[ov], true⟩)) (e6 : L[6]? = some (rec61 h.length 0)) (ec : L[c]? = some (some ⟨cI S, rw_⟩)) (c6 : c ≠ 6) (hm : m = S.length) (x0 : exE l F S ≠ 0) :
    EProg.roundOf E (E.call (d + 4)) lim (h.length + 6) [vS (h.length + c) m] (h.freeze ++ L) = some (.bool true, h.freeze ++ L) := by
  have key : ∃ w h', EProg.roundOf E (E.call (d + 4)) lim (h.length + 6) [vS (h.length + c) m] (h.freeze ++ L) = some (w, h') ∧ w = .bool true ∧ h' = h.freeze ++ L := by
    have G : ∀ L' : List (Option Blk), Heap.get (h.freeze ++ L') (h.length + 6) = (L'[6]?).getD none := fun L' => hget_base (by simp)
    refine round1 (us := [pB h.length, pB (h.length + 1), pB (h.length + 3)]) (by rw [G, e6]; rfl) fn61 rfl rfl ?_
    have l6 : 6 < L.length := by
      rcases Nat.lt_or_ge 6 L.length with z | z
      · exact z
      · rw [List.getElem?_eq_none z] at e6; cases e6
    have LS : ∀ st, Heap.loopSt (h.freeze ++ L.set 6 (rec61 h.length st)) (h.length + 6) = some st := fun st => loopSt_get (a := .int .i64 (61 : Nat)) (b := .int .i64 (0 : Nat)) (k := .i64) (us := [pB h.length, pB (h.length + 1), pB (h.length + 3)]) (by rw [G]; simp [l6])
    have LS0 : Heap.loopSt (h.freeze ++ L) (h.length + 6) = some 0 := loopSt_get (by rw [G, e6]; rfl)
    have SL : ∀ st st', Heap.setLoop (h.freeze ++ L.set 6 (rec61 h.length st)) (h.length + 6) st' = some (h.freeze ++ L.set 6 (rec61 h.length st')) := fun st st' => by rw [setLoop_get (a := .int .i64 (61 : Nat)) (b := .int .i64 (0 : Nat)) (c := .int .i64 st) (us := [pB h.length, pB (h.length + 1), pB (h.length + 3)]) (by rw [G]; simp [l6]), hput_base (by simp), List.set_set]
    have SL0 : ∀ st', Heap.setLoop (h.freeze ++ L) (h.length + 6) st' = some (h.freeze ++ L.set 6 (rec61 h.length st')) := fun st' => by rw [setLoop_get (by rw [G, e6]; rfl), hput_base (by simp)]
    have S0 : L.set 6 (rec61 h.length 0) = L := set_id e6
    have k92 := fun lim => c92 (d := d) (lim := lim) (F := F) (S := S) (h := h.freeze ++ L.set 6 (rec61 h.length (-1))) (u := vS (h.length + c) m) ((Sl_freeze.2 s).app _) ((Sl_freeze.2 t).app _) (SlI'_own (rw := rw_) (by rw [hget_base (by simp), List.getElem?_set_ne (by omega), ec]; rfl) hm) O hl hf hs
    simp [roundFrame, LS, LS0, SL, SL0, S0, e0, e1, e3, k92, x0]
  obtain ⟨_, _, e, rfl, rfl⟩ := key
  exact e
end U
end Go.Abs
/- Sets of one note, one by one. -/
namespace Go.Abs
namespace U
set_option maxRecDepth 100000
set_option maxHeartbeats 0
set_option linter.unusedSimpArgs false
/-- One set is looked at: it is the first explanation. -/
theorem r61y {d lim c m : Nat} {h : Heap} {v w : Value} {l : List P4} {F S : List Int} {L : List (Option Blk)} {rw_ : Bool} (s : Sl4 h v l) (t : SlI' h w F) (O : AscL F) (hl : l.length ≤ 1000) (hf : F.length ≤ 1000) (hs : S.length ≤ 1000)
    (e0 : L[0]? = some (some ⟨[v], true⟩)) (e1 : L[1]? = some (some ⟨[w], true⟩)) (e3 : L[3]? = some (some ⟨[.slice none 0 0], true⟩)) (e6 : L[6]? = some (rec61 h.length 0)) (ec : L[c]? = some (some ⟨cI S, rw_⟩)) (c6 : c ≠ 6) (hm : m = S.length) (x0 : exE l F S = 0) (hlim : lim ≤ h.length) :
    EProg.roundOf E (E.call (d + 4)) lim (h.length + 6) [vS (h.length + c) m] (h.freeze ++ L) = some (.bool true, h.freeze ++ (L.set 3 (some ⟨[vS (h.length + (L.length + 1)) 1], true⟩) ++ [some ⟨[vS (h.length + c) m], true⟩, some ⟨[vS (h.length + c) m], true⟩])) := by
  have key : ∃ w h', EProg.roundOf E (E.call (d + 4)) lim (h.length + 6) [vS (h.length + c) m] (h.freeze ++ L) = some (w, h') ∧ w = .bool true ∧ h' = h.freeze ++ (L.set 3 (some ⟨[vS (h.length + (L.length + 1)) 1], true⟩) ++ [some ⟨[vS (h.length + c) m], true⟩, some ⟨[vS (h.length + c) m], true⟩]) := by
    have G : ∀ L' : List (Option Blk), Heap.get (h.freeze ++ L') (h.length + 6) = (L'[6]?).getD none := fun L' => hget_base (by simp)
    refine round1 (us := [pB h.length, pB (h.length + 1), pB (h.length + 3)]) (by rw [G, e6]; rfl) fn61 rfl rfl ?_
    have l6 : 6 < L.length := by
      rcases Nat.lt_or_ge 6 L.length with z | z
      · exact z
      · rw [List.getElem?_eq_none z] at e6; cases e6
    have LS0 : Heap.loopSt (h.freeze ++ L) (h.length + 6) = some 0 := loopSt_get (by rw [G, e6]; rfl)
    have SL0 : ∀ st', Heap.setLoop (h.freeze ++ L) (h.length + 6) st' = some (h.freeze ++ L.set 6 (rec61 h.length st')) := fun st' => by rw [setLoop_get (by rw [G, e6]; rfl), hput_base (by simp)]
    have S0 : L.set 6 (rec61 h.length 0) = L := set_id e6
    have k92 := fun lim => c92 (d := d) (lim := lim) (F := F) (S := S) (h := h.freeze ++ L.set 6 (rec61 h.length (-1))) (u := vS (h.length + c) m) ((Sl_freeze.2 s).app _) ((Sl_freeze.2 t).app _) (SlI'_own (rw := rw_) (by rw [hget_base (by simp), List.getElem?_set_ne (by omega), ec]; rfl) hm) O hl hf hs
    have l3 : 3 < L.length := by omega
    have l3b : ¬ L.length ≤ 3 := by omega
    have g3 : ∀ X : List (Option Blk), (L.set 6 (rec61 h.length (-1)) ++ X)[3]? = some (some ⟨[.slice none 0 0], true⟩) := fun X => by rw [List.getElem?_append_left (by rw [List.length_set]; omega), List.getElem?_set_ne (by omega), e3]
    have p3 : ∀ (X : List (Option Blk)) b, (L.set 6 (rec61 h.length (-1)) ++ X).set 3 b = (L.set 3 b).set 6 (rec61 h.length (-1)) ++ X := fun X b => by rw [List.set_append_left _ _ (by rw [List.length_set]; omega), List.set_comm _ _ (by omega)]
    have e6' : ∀ b, (L.set 3 b)[6]? = some (rec61 h.length 0) := fun b => by rw [List.getElem?_set_ne (by omega), e6]
    have SL1 : ∀ (X : List (Option Blk)) b, Heap.setLoop (h.freeze ++ ((L.set 3 b).set 6 (rec61 h.length (-1)) ++ X)) (h.length + 6) 0 = some (h.freeze ++ (L.set 3 b ++ X)) := fun X b => by
      rw [setLoop_get (a := .int .i64 (61 : Nat)) (b := .int .i64 (0 : Nat)) (c := .int .i64 (-1)) (us := [pB h.length, pB (h.length + 1), pB (h.length + 3)]) (by rw [G, List.getElem?_append_left (by simp; omega)]; simp [l6]), hput_base (by simp), List.set_append_left _ _ (by simp; omega), List.set_set, set_id (e6' b)]
    have hlim3 : lim ≤ h.length + 3 := by omega
    have mx : 1 ≤ maxLen := by decide
    simp [roundFrame, LS0, SL0, S0, e0, e1, e3, k92, x0, fillL, zeros, E.append, E.added, g3, p3, SL1, hlim3, mx]
  obtain ⟨_, _, e, rfl, rfl⟩ := key
  exact e
abbrev a117 (n : Nat) (k : Int) : List Value := [i64 k, pB (n + 9), pB (n + 4), pB (n + 7), pB (n + 5), pB (n + 10)]
abbrev f117 (n : Nat) : Value := .func (.func 117) #[] #[pB (n + 9), pB (n + 4), pB (n + 7), pB (n + 5), pB (n + 10)]
theorem c117y {d lim b m : Nat} {k : Int} {h H' : Heap} {S : List Int} {L : List (Option Blk)} {rw_ : Bool} (hs : S.length ≤ 1000) (e4 : L[4]? = some (some ⟨[i64 m], true⟩)) (e7 : L[7]? = some (some ⟨[yieldVal (h.length + 6)], true⟩)) (e9 : L[9]? = some (some ⟨[vS (h.length + b) m], true⟩))
    (eb : L[b]? = some (some ⟨cI S, rw_⟩)) (hm : m = S.length) (hr : EProg.roundOf E (E.call (d + 4)) lim (h.length + 6) [vS (h.length + L.length) m] (h.freeze ++ (L ++ [some ⟨cI S, true⟩])) = some (.bool true, H')) :
    E.call (d + 5) lim 117 (a117 h.length k) (h.freeze ++ L) = some (.bool true, H') := by
  subst hm
  refine call_full fn117 rfl (by simp [ef117]) ?_
  have k118 := fun lim => c118 (d := d + 3) (lim := lim) (h := Heap.freeze (h.freeze ++ L)) (b := h.length + b) (n := S.length) (l := S) (SlI'_own (rw := false) (hget_freeze (k := ⟨cI S, rw_⟩) (by rw [hget_base (by simp), eb]; rfl)) rfl) (by omega)
  simp [ef117, e4, e7, e9, k118, hr]
end U
end Go.Abs
/- Sets of one note: the loop. -/
namespace Go.Abs
theorem call_full_ex {E : EProg} {f : FuncId} {F : EFun} (hf : E.fn f = some F) (hm : F.mode = .full) {args : List Value} (hl : args.length ≤ F.n) {d lim : Nat} {h : Heap} {Q : Value → Heap → Prop}
    (hw : wpC ⟨EProg.call E d, h.length, lim, false, E.glob, E.fuel, EProg.roundOf E (EProg.call E d)⟩ F.code ⟨argFrame 0 args, h⟩ fun e st => ∃ v h', Q v h' ∧ KFull F.results v h' e st) :
    ∃ v h', E.call (d + 1) lim f args h = some (v, h') ∧ Q v h' := by
  obtain ⟨⟨e, st⟩, hr, v, h', hQ, hq⟩ := hw
  exact ⟨v, h', call_full hf hm hl ⟨(e, st), hr, hq⟩, hQ⟩
namespace U
set_option maxRecDepth 100000
set_option maxHeartbeats 0
set_option linter.unusedSimpArgs false
/-- The blocks under the loop over sets. -/
structure LB (h : Heap) (v w : Value) (D N : List Int) (sz : Int) (out : Value) (L : List (Option Blk)) : Prop where
  e0 : L[0]? = some (some ⟨[v], true⟩)
  e1 : L[1]? = some (some ⟨[w], true⟩)
  e2 : L[2]? = some (some ⟨cI D, true⟩)
  e3 : L[3]? = some (some ⟨[out], true⟩)
  e4 : L[4]? = some (some ⟨[i64 sz], true⟩)
  e5 : L[5]? = some (some ⟨[vS (h.length + 2) N.length], true⟩)
  e6 : L[6]? = some (rec61 h.length 0)
  e7 : L[7]? = some (some ⟨[yieldVal (h.length + 6)], true⟩)
  e10 : L[10]? = some (some ⟨[f117 h.length], true⟩)
  len : 11 ≤ L.length
/-- What is kept when other blocks turn. -/
theorem LB.keep {h : Heap} {v w out : Value} {D N : List Int} {sz : Int} {L L' : List (Option Blk)} (B : LB h v w D N sz out L) (hl : 11 ≤ L'.length) (k : ∀ i, i < 11 → i ≠ 8 → i ≠ 9 → L'[i]? = L[i]?) : LB h v w D N sz out L' :=
  ⟨(k 0 (by omega) (by omega) (by omega)).trans B.e0, (k 1 (by omega) (by omega) (by omega)).trans B.e1, (k 2 (by omega) (by omega) (by omega)).trans B.e2, (k 3 (by omega) (by omega) (by omega)).trans B.e3, (k 4 (by omega) (by omega) (by omega)).trans B.e4,
   (k 5 (by omega) (by omega) (by omega)).trans B.e5, (k 6 (by omega) (by omega) (by omega)).trans B.e6, (k 7 (by omega) (by omega) (by omega)).trans B.e7, (k 10 (by omega) (by omega) (by omega)).trans B.e10, hl⟩
theorem LB.out' {h : Heap} {v w out out2 : Value} {D N : List Int} {sz : Int} {L : List (Option Blk)} (B : LB h v w D N sz out L) : LB h v w D N sz out2 (L.set 3 (some ⟨[out2], true⟩)) := by
  have hl := B.len
  have g : ∀ i, i ≠ 3 → (L.set 3 (some ⟨[out2], true⟩))[i]? = L[i]? := fun i hi => List.getElem?_set_ne (by omega)
  exact ⟨(g 0 (by omega)).trans B.e0, (g 1 (by omega)).trans B.e1, (g 2 (by omega)).trans B.e2, by rw [List.getElem?_set_self (by omega)], (g 4 (by omega)).trans B.e4, (g 5 (by omega)).trans B.e5, (g 6 (by omega)).trans B.e6, (g 7 (by omega)).trans B.e7, (g 10 (by omega)).trans B.e10, by rw [List.length_set]; exact hl⟩
/-- The explanations found: none yet, or one. -/
def OutOk (h : Heap) (n : Int) (fd : Bool) (bs : Nat) (L : List (Option Blk)) (out : Value) : Prop :=
  if fd = true then ∃ b c, 11 ≤ b ∧ 11 ≤ c ∧ b ≠ c ∧ b ≠ bs ∧ c ≠ bs ∧ out = vS (h.length + b) 1 ∧ L[b]? = some (some ⟨[vS (h.length + c) 1], true⟩) ∧ L[c]? = some (some ⟨[i64 n], true⟩) else out = .slice none 0 0
theorem c117s {d lim bs : Nat} {h : Heap} {v w : Value} {l : List P4} {F D N : List Int} {cs : List Value} {n : Int} {L : List (Option Blk)} (s : Sl4 h v l) (t : SlI' h w F) (O : AscL F) (hl : l.length ≤ 1000) (hf : F.length ≤ 1000) (hlim : lim ≤ h.length)
    (hN : N.length ≤ 1000) (hD : ∀ i, i < N.length → i < D.length ∧ gI D i = gI N i) (hx : ∀ i, i < N.length → (exE l F [gI N i] = 0 ↔ gI N i = n)) (hu : ∀ i j, i < j → j < N.length → gI N i ≠ gI N j)
    (B : LB h v w D N 1 (.slice none 0 0) L) (e9 : L[9]? = some (some ⟨[vS (h.length + bs) 0], true⟩)) (eb : L[bs]? = some (some ⟨cs, true⟩)) (b8 : 8 ≤ bs) (b9 : bs ≠ 9) (b10 : bs ≠ 10) :
    ∃ L' out bs', E.call (d + 6) lim 117 (a117 h.length 0) (h.freeze ++ L) = some (.bool true, h.freeze ++ L') ∧ LB h v w D N 1 out L' ∧ OutOk h n (decide (∃ j, j < N.length ∧ gI N j = n)) bs' L' out := by
  have key : ∃ u h', E.call (d + 6) lim 117 (a117 h.length 0) (h.freeze ++ L) = some (u, h') ∧ u = .bool true ∧ ∃ L' out bs', h' = h.freeze ++ L' ∧ LB h v w D N 1 out L' ∧ OutOk h n (decide (∃ j, j < N.length ∧ gI N j = n)) bs' L' out := by
    refine call_full_ex (Q := fun u h' => u = .bool true ∧ ∃ L' out bs', h' = h.freeze ++ L' ∧ LB h v w D N 1 out L' ∧ OutOk h n (decide (∃ j, j < N.length ∧ gI N j = n)) bs' L' out) fn117 rfl (by simp [ef117]) ?_
    have z0 : ¬ (0 : Int) = 1 := by decide
    have E4 := B.e4
    simp [ef117, e9, E4]
    refine wpC_loop (fun q st => ∃ (i bs : Nat) (L : List (Option Blk)) (out : Value) (cs : List Value), q = N.length - i ∧ i ≤ N.length ∧ LB h v w D N 1 out L ∧ L[9]? = some (some ⟨[vS (h.length + bs) 0], true⟩) ∧ L[bs]? = some (some ⟨cs, true⟩) ∧ 8 ≤ bs ∧ bs ≠ 9 ∧ bs ≠ 10 ∧ OutOk h n (decide (∃ j, j < i ∧ gI N j = n)) bs L out ∧
      st = ⟨[(1, pB (h.length + 9)), (4, pB (h.length + 5)), (5, pB (h.length + 10)), (8, i64 (i : Int))], h.freeze ++ L⟩) N.length (by show N.length < 2 ^ 64; omega) ?_ ?_
    · simp [St.tidy]
      refine ⟨0, by omega, by omega, bs, L, _, B, e9, ⟨cs, eb⟩, b8, b9, b10, ?_, rfl, rfl⟩
      unfold OutOk
      rw [if_neg (by simp)]
    · rintro q hq _ ⟨i, bs, L, out, cs, rfl, hi, B, e9, eb, b8, b9, b10, ho, rfl⟩
      have ll := B.len
      have E5 := B.e5
      have E2 := B.e2
      by_cases lt : i < N.length
      · have lti : (i : Int) < N.length := by omega
        obtain ⟨p1, p2, p3, p4, p5⟩ := ixL (hD i lt).1
        rw [(hD i lt).2] at p2 p3
        obtain ⟨x, hxx⟩ : ∃ x, x = gI N i := ⟨_, rfl⟩
        have w1' := w1 (i := i) (by omega)
        have bl : bs < L.length := by
          rcases Nat.lt_or_ge bs L.length with z | z
          · exact z
          · rw [List.getElem?_eq_none z] at eb; cases eb
        have AT : E.append ((h.freeze ++ (L ++ [some (Blk.mk [i64 x] true)])).trim (vS (h.length + bs) 0)) 1 8 (vS (h.length + bs) 0) (.slice (some ⟨h.length + L.length, 0, none⟩) 1 1) =
            some ⟨.slice (some ⟨h.length + (L.length + 1), 0, none⟩) 1 1, [h.length + bs, h.length + L.length], .move (h.length + bs) ⟨[i64 x], true⟩⟩ := by
          have g1 : Heap.get (h.freeze ++ (L ++ [some (Blk.mk [i64 x] true)])) (h.length + bs) = some ⟨cs, true⟩ := by rw [hget_base (by simp), List.getElem?_append_left bl, eb]; rfl
          have tr : (h.freeze ++ (L ++ [some (Blk.mk [i64 x] true)])).trim (vS (h.length + bs) 0) = h.freeze ++ (L.set bs (some (Blk.mk [] true)) ++ [some (Blk.mk [i64 x] true)]) := by
            unfold Heap.trim
            simp only [g1]
            rw [hput_base (by simp), List.set_append_left _ _ bl]; rfl
          rw [tr]
          have g2 : Heap.get (h.freeze ++ (L.set bs (some (Blk.mk [] true)) ++ [some (Blk.mk [i64 x] true)])) (h.length + bs) = some (Blk.mk [] true) := by rw [hget_base (by simp), List.getElem?_append_left (by simpa using bl), List.getElem?_set_self bl]; rfl
          have g3 : Heap.get (h.freeze ++ (L.set bs (some (Blk.mk [] true)) ++ [some (Blk.mk [i64 x] true)])) (h.length + L.length) = some (Blk.mk [i64 x] true) := by rw [hget_base (by simp), List.getElem?_append_right (by simp)]; simp
          have := app_seg (bytes := 8) (b := h.length + bs) (b2 := h.length + L.length) (n := 0) (m := 1) (o := 0) (H := h.freeze ++ (L.set bs (some (Blk.mk [] true)) ++ [some (Blk.mk [i64 x] true)])) (X := []) (Y := [x]) (Z := [x]) (rw := true) g2 rfl g3 (by decide) rfl (Nat.le_refl 1) (by decide) (by decide)
          rw [show List.length (h.freeze ++ (L.set bs (some (Blk.mk [] true)) ++ [some (Blk.mk [i64 x] true)])) = h.length + (L.length + 1) by simp] at this
          exact this
        obtain ⟨K, hK⟩ : ∃ K, K = (L ++ [some (Blk.mk [i64 x] true)]).set bs none ++ [some (Blk.mk [i64 x] true)] := ⟨_, rfl⟩
        have Kl : K.length = L.length + 2 := by rw [hK]; simp
        have Kg : ∀ j, j < L.length → j ≠ bs → K[j]? = L[j]? := fun j hj hb => by rw [hK, List.getElem?_append_left (by simp; omega), List.getElem?_set_ne (by omega), List.getElem?_append_left hj]
        have Kn : K[L.length + 1]? = some (some ⟨cI [x], true⟩) := by rw [hK, List.getElem?_append_right (by simp)]; simp [cI]
        have P1 : Heap.push (Heap.put (h.freeze ++ (L ++ [some (Blk.mk [i64 x] true)])) (h.length + bs) none) ⟨[i64 x], true⟩ = h.freeze ++ K := by rw [hput_base (by simp), hK, hpush_append]
        obtain ⟨K2, hK2⟩ : ∃ K2, K2 = K.set 9 (some ⟨[.slice (some ⟨h.length + (L.length + 1), 0, none⟩) 1 1], true⟩) := ⟨_, rfl⟩
        have P2 : Heap.put (h.freeze ++ K) (h.length + 9) (some ⟨[.slice (some ⟨h.length + (L.length + 1), 0, none⟩) 1 1], true⟩) = h.freeze ++ K2 := by rw [hput_base (by simp), hK2]
        have K2l : K2.length = L.length + 2 := by rw [hK2, List.length_set, Kl]
        have K2g : ∀ j, j < L.length → j ≠ bs → j ≠ 9 → K2[j]? = L[j]? := fun j hj hb h9 => by rw [hK2, List.getElem?_set_ne (by omega), Kg j hj hb]
        have K29 : K2[9]? = some (some ⟨[vS (h.length + (L.length + 1)) 1], true⟩) := by rw [hK2, List.getElem?_set_self (by omega)]
        have K2n : K2[L.length + 1]? = some (some ⟨cI [x], true⟩) := by rw [hK2, List.getElem?_set_ne (by omega), Kn]
        have K9 : K[9]? = some (some ⟨[vS (h.length + bs) 0], true⟩) := by rw [Kg 9 (by omega) (by omega), e9]
        have K210 : K2[10]? = some (some ⟨[f117 h.length], true⟩) := by rw [K2g 10 (by omega) (by omega) (by omega), B.e10]
        have key : ∃ K3 out', E.call (d + 5) lim 117 (a117 h.length ((i : Int) + 1)) (h.freeze ++ K2) = some (.bool true, h.freeze ++ K3) ∧ 12 ≤ K3.length ∧ K3[9]? = some (some ⟨[vS (h.length + (L.length + 1)) 1], true⟩) ∧ K3[L.length + 1]? = some (some (Blk.mk [i64 x] true)) ∧
            LB h v w D N 1 out' K3 ∧ OutOk h n (decide (∃ j, j < i + 1 ∧ gI N j = n)) (L.length + 1) K3 out' := by
          obtain ⟨M, hM⟩ : ∃ M, M = K2 ++ [some (Blk.mk (cI [x]) true)] := ⟨_, rfl⟩
          have Ml : M.length = L.length + 3 := by rw [hM, List.length_append, K2l]; rfl
          have Mg : ∀ j, j < L.length + 2 → M[j]? = K2[j]? := fun j hj => by rw [hM, List.getElem?_append_left (by omega)]
          have MB : LB h v w D N 1 out M := B.keep (by omega) fun j hj h8 h9 => by
            by_cases z : j = bs
            · omega
            · rw [Mg j (by omega), K2g j (by omega) z h9]
          have Mn : M[L.length + 2]? = some (some ⟨cI [x], true⟩) := by rw [hM, ← K2l, List.getElem?_append_right (Nat.le_refl _), Nat.sub_self]; rfl
          have M9 : M[9]? = some (some ⟨[vS (h.length + (L.length + 1)) 1], true⟩) := by rw [Mg 9 (by omega), K29]
          have M1 : M[L.length + 1]? = some (some ⟨[i64 x], true⟩) := by rw [Mg _ (by omega), K2n]; rfl
          have k4 : K2[4]? = some (some ⟨[i64 ((1 : Nat) : Int)], true⟩) := by rw [K2g 4 (by omega) (by omega) (by omega), B.e4]; rfl
          have k7 : K2[7]? = some (some ⟨[yieldVal (h.length + 6)], true⟩) := by rw [K2g 7 (by omega) (by omega) (by omega), B.e7]
          have x0 := hx i lt
          rw [← hxx] at x0
          by_cases y : exE l F [x] = 0
          · have xn := x0.1 y
            have nf : ¬ ∃ j, j < i ∧ gI N j = n := by rintro ⟨j, hj, e⟩; exact hu j i hj lt (by rw [e, ← hxx, xn])
            have on : out = .slice none 0 0 := by unfold OutOk at ho; rw [if_neg (by simpa using nf)] at ho; exact ho
            subst on
            have rr := r61y (d := d) (lim := lim) (c := L.length + 2) (m := 1) (rw_ := true) s t O hl hf (S := [x]) (by simp) MB.e0 MB.e1 MB.e3 MB.e6 Mn (by omega) rfl y hlim
            have kc := c117y (d := d) (lim := lim) (k := (i : Int) + 1) (m := 1) (S := [x]) (rw_ := true) (by simp) k4 k7 K29 K2n rfl (by rw [K2l, ← hM]; exact rr)
            obtain ⟨K3, hK3⟩ : ∃ K3, K3 = M.set 3 (some (Blk.mk [vS (h.length + (M.length + 1)) 1] true)) ++ [some (Blk.mk [vS (h.length + (L.length + 2)) 1] true), some (Blk.mk [vS (h.length + (L.length + 2)) 1] true)] := ⟨_, rfl⟩
            rw [← hK3] at kc
            have g3 : ∀ j, j < L.length + 3 → j ≠ 3 → K3[j]? = M[j]? := fun j hj h3 => by rw [hK3, List.getElem?_append_left (by simp; omega), List.getElem?_set_ne (by omega)]
            refine ⟨K3, vS (h.length + (M.length + 1)) 1, kc, by rw [hK3]; simp; omega, by rw [g3 9 (by omega) (by omega), M9], by rw [g3 _ (by omega) (by omega), M1], ?_, ?_⟩
            · exact MB.out'.keep (by rw [hK3]; simp; omega) fun j hj h8 h9 => by rw [hK3, List.getElem?_append_left (by simp; omega)]
            · unfold OutOk
              rw [if_pos (by simpa using ⟨i, by omega, by rw [← hxx, xn]⟩)]
              refine ⟨L.length + 4, L.length + 2, by omega, by omega, by omega, by omega, by omega, by rw [Ml], ?_, ?_⟩
              · rw [hK3, List.getElem?_append_right (by simp; omega)]
                simp [Ml]
              · rw [g3 _ (by omega) (by omega), Mn, xn]; rfl
          · have xn : ¬ x = n := fun z => y (x0.2 z)
            have rr := r61n (d := d) (lim := lim) (c := L.length + 2) (m := 1) (rw_ := true) s t O hl hf (S := [x]) (by simp) MB.e0 MB.e1 MB.e3 MB.e6 Mn (by omega) rfl y
            have kc := c117y (d := d) (lim := lim) (k := (i : Int) + 1) (m := 1) (S := [x]) (rw_ := true) (by simp) k4 k7 K29 K2n rfl (by rw [K2l, ← hM]; exact rr)
            refine ⟨M, out, kc, by omega, M9, M1, MB, ?_⟩
            have ef : (decide (∃ j, j < i + 1 ∧ gI N j = n)) = decide (∃ j, j < i ∧ gI N j = n) := by
              refine decide_eq_decide.2 ⟨?_, ?_⟩
              · rintro ⟨j, hj, e⟩
                by_cases z : j < i
                · exact ⟨j, z, e⟩
                · obtain rfl : j = i := by omega
                  exact absurd (hxx.trans e) xn
              · rintro ⟨j, hj, e⟩; exact ⟨j, by omega, e⟩
            rw [ef]
            unfold OutOk at ho ⊢
            by_cases z : decide (∃ j, j < i ∧ gI N j = n) = true
            · rw [if_pos z] at ho ⊢
              obtain ⟨b, c, q1, q2, q3, q4, q5, q6, q7, q8⟩ := ho
              have bl' : b < L.length := by
                rcases Nat.lt_or_ge b L.length with z | z
                · exact z
                · rw [List.getElem?_eq_none z] at q7; cases q7
              have cl' : c < L.length := by
                rcases Nat.lt_or_ge c L.length with z | z
                · exact z
                · rw [List.getElem?_eq_none z] at q8; cases q8
              exact ⟨b, c, q1, q2, q3, by omega, by omega, q6, by rw [Mg b (by omega), K2g b bl' q4 (by omega), q7], by rw [Mg c (by omega), K2g c cl' q5 (by omega), q8]⟩
            · rw [if_neg z] at ho ⊢; exact ho
        obtain ⟨K3, out', kc, K3l, K39, K3n, B3, ho3⟩ := key
        have K3b := B3.e10
        obtain ⟨K4, hK4⟩ : ∃ K4, K4 = K3.set 9 (some ⟨[vS (h.length + (L.length + 1)) 0], true⟩) := ⟨_, rfl⟩
        have P3 : Heap.put (h.freeze ++ K3) (h.length + 9) (some ⟨[vS (h.length + (L.length + 1)) 0], true⟩) = h.freeze ++ K4 := by rw [hput_base (by simp), hK4]
        have w0 : IntKind.wrap .i64 0 = 0 := wrap_eq (by omega) (by omega)
        have l9 : lim ≤ h.length + 9 := by omega
        have l10 : lim ≤ h.length + 10 := by omega
        rw [← hxx] at p2 p3
        simp only [a117] at kc
        simp [e9, E5, E2, lt, lti, Nat.not_le.2 lt, p1, p2, p3, p4, p5, fillL, zeros, AT, ← hK, ← hK2, ← hK4, K9, K210, l9, w1', kc, K39, St.tidy, w0, E.bound]
        have g4 : ∀ j, j ≠ 9 → K4[j]? = K3[j]? := fun j hj => by rw [hK4, List.getElem?_set_ne (by omega)]
        have l4 : K4.length = K3.length := by rw [hK4, List.length_set]
        refine ⟨N.length - (i + 1), by omega, i + 1, rfl, by omega, L.length + 1, K4, out', B3.keep (by omega) fun j hj h8 h9 => g4 j h9, by rw [hK4, List.getElem?_set_self (by omega)], ⟨_, (g4 _ (by omega)).trans K3n⟩, by omega, by omega, by omega, ?_, by omega, rfl⟩
        unfold OutOk at ho3 ⊢
        by_cases z : decide (∃ j, j < i + 1 ∧ gI N j = n) = true
        · rw [if_pos z] at ho3 ⊢
          obtain ⟨b, c, q1, q2, q3, q4, q5, q6, q7, q8⟩ := ho3
          exact ⟨b, c, q1, q2, q3, q4, q5, q6, (g4 b (by omega)).trans q7, (g4 c (by omega)).trans q8⟩
        · rw [if_neg z] at ho3 ⊢; exact ho3
      · have ei : i = N.length := by omega
        simp [e9, E5, E2, lt, Nat.not_lt.1 lt]
        exact ⟨out, B, bs, ei ▸ ho⟩
  obtain ⟨_, _, e, rfl, L', out, bs', rfl, b1, b2⟩ := key
  exact ⟨L', out, bs', e, b1, b2⟩
end U
end Go.Abs
/- The smallest explanations: one note. -/
namespace Go.Abs
namespace U
set_option maxRecDepth 100000
set_option maxHeartbeats 0
set_option linter.unusedSimpArgs false
abbrev L7 (h : Heap) (v w : Value) (D N : List Int) (sz : Int) : List (Option Blk) := [some ⟨[v], true⟩, some ⟨[w], true⟩, some ⟨cI D, true⟩, some ⟨[.slice none 0 0], true⟩, some ⟨[i64 sz], true⟩, some ⟨[vS (h.length + 2) N.length], true⟩, rec61 h.length 0]
abbrev L11 (h : Heap) (v w : Value) (D N : List Int) (sz : Int) : List (Option Blk) := [some ⟨[v], true⟩, some ⟨[w], true⟩, some ⟨cI D, true⟩, some ⟨[.slice none 0 0], true⟩, some ⟨[i64 sz], true⟩, some ⟨[vS (h.length + 2) N.length], true⟩, rec61 h.length 0,
  some ⟨[yieldVal (h.length + 6)], true⟩, some ⟨[], true⟩, some ⟨[vS (h.length + 8) 0], true⟩, some ⟨[f117 h.length], true⟩]
theorem c116 {d lim : Nat} {h : Heap} {v w : Value} {D N : List Int} {sz : Nat} {L' : List (Option Blk)} (hlim : lim ≤ h.length) (hs : sz ≤ 12) (k : E.call d lim 117 (a117 h.length 0) (h.freeze ++ L11 h v w D N sz) = some (.bool true, h.freeze ++ L')) :
    E.call (d + 1) lim 116 [yieldVal (h.length + 6), pB (h.length + 4), pB (h.length + 5)] (h.freeze ++ L7 h v w D N sz) = some (.tuple #[], h.freeze ++ L') := by
  refine call_full fn116 rfl (by simp [ef116]) ?_
  have l9 : lim ≤ h.length + 9 := by omega
  have l10 : lim ≤ h.length + 10 := by omega
  have zs : zeros [Value.int .i64 0] 0 = [] := rfl
  have mx : sz ≤ maxLen := by unfold maxLen; omega
  have by8 : 8 * (sz : Int) ≤ 140737488355328 := by omega
  have cy : (yieldVal (h.length + 6)).cells = #[yieldVal (h.length + 6)] := rfl
  unfold Value.cells at cy
  simp [ef116, zs, l9, l10, mx, cy]
  refine ⟨by8, ?_⟩
  rw [k]
  simp
theorem c61w {d lim : Nat} {h : Heap} {v w : Value} {l : List P4} {F : List Int} {n : Int} (s : Sl4 h v l) (t : SlI' h w F) (hf : F.length ≤ 1000) (hl : l.length ≤ 12) (e0 : cfE l F = 0) (l0 : l.length ≠ 0)
    (x0 : exE l F [] ≠ 0) (hx : ∀ x ∈ ntD l, (exE l F [x] = 0 ↔ x = n)) (hn : n ∈ ntD l) :
    E.call (d + 9) lim 61 [v, w] h = some (if (ntD l).length ≤ 12 then .tuple #[vS h.length 1, i64 0] else .tuple #[.slice none 0 0, i64 8], h ++ if (ntD l).length ≤ 12 then [some ⟨[vS (h.length + 1) 1], true⟩, some ⟨[i64 n], true⟩] else []) := by
  have r := s.rules2
  have r' := t.rules2
  obtain ⟨O, hr, AF⟩ := cfE_0 e0
  have k91 := fun (L : Heap) lim => c91 (d := d + 3) (lim := lim) ((Sl_freeze.2 s).app L) ((Sl_freeze.2 t).app L) hf
  have k85 := fun (L : Heap) lim => c85 (D := d) (lim := lim) ((Sl_freeze.2 s).app L) hl
  unfold ntV ntB at k85
  simp only [if_neg l0] at k85
  have hD : ∀ i, i < (ntD l).length → i < (ddz (ntS l)).length ∧ gI (ddz (ntS l)) i = gI (ntD l) i := fun i hi => ddz_at hi
  have nl : (ntD l).length ≤ 24 := by
    have := dd_len (ntS l) (ntS l).length
    have := ntS_len l
    unfold ntD; omega
  have hnil : ¬ l = [] := fun e => l0 (by rw [e]; rfl)
  have hA : AscL (ntD l) := asc_of (dd_asc (ntS_asc l) _ (Nat.le_refl _)).1
  generalize ntD l = N at *
  generalize ddz (ntS l) = D at *
  have cpD := cI_plain D
  refine call_pure fn61 rfl (by simp [ef61]) ?_
  have cv : v.cells = #[v] := by rcases s.low with e | ⟨b, o, n, k, e, hb⟩ <;> subst e <;> rfl
  have cw : w.cells = #[w] := by rcases t.low with e | ⟨b, o, n, k, e, hb⟩ <;> subst e <;> rfl
  unfold Value.cells at cv cw
  by_cases q12 : N.length ≤ 12
  case neg =>
    have q12i : (12 : Int) < N.length := by omega
    have q12j : ¬ (N.length : Int) ≤ 12 := by omega
    simp [ef61, cv, cw, k91, e0, k85, hnil, q12, q12i, q12j, Nat.lt_of_not_le q12]
  have q12i : ¬ (12 : Int) < N.length := by omega
  have w1' := w1 (i := N.length) (by omega)
  have hx' : ∀ i, i < N.length → (exE l F [gI N i] = 0 ↔ gI N i = n) := fun i hi => hx _ (gI_mem hi)
  have hu : ∀ i j, i < j → j < N.length → gI N i ≠ gI N j := fun i j hij hj => by have := hA i j hij hj; omega
  have fd : decide (∃ j, j < N.length ∧ gI N j = n) = true := by
    obtain ⟨i, hi, e⟩ := List.getElem_of_mem hn
    exact decide_eq_true ⟨i, hi, by rw [gI_eq hi]; exact e⟩
  have q12j : (N.length : Int) ≤ 12 := by omega
  simp [-collect_own1, ef61, cv, cw, k91, e0, k85, hnil, q12, q12i, q12j, w1', Nat.not_lt.2 q12]
  refine wpC_loop (fun q st => ∃ k : Nat, q = 1 - k ∧ k ≤ 1 ∧ st = ⟨[(2, pB h.length), (3, pB (h.length + 1)), (7, vS (h.length + 2) N.length), (24, i64 ((N.length + 1 : Nat) : Int)), (25, i64 (k : Int))], h.freeze ++ [some ⟨[v], true⟩, some ⟨[w], true⟩, some ⟨cI D, true⟩]⟩) 1 (by show 1 < 2 ^ 64; decide) ?_ ?_
  · simp [-collect_own1, cpD, St.tidy, collect_box, s.own, t.own, r, r']
    exact ⟨0, by omega, by omega, rfl⟩
  · rintro q hq _ ⟨k, rfl, hk, rfl⟩
    have k93 := fun (L : Heap) (b n : Nat) (x : Int) lim hb => c93 (d := d + 7) (lim := lim) (b := b) (n := n) (h := h.freeze ++ L) (k := x) hb
    have w11 : IntKind.wrap .i64 1 = 1 := wrap_eq (by omega) (by omega)
    rcases Nat.eq_zero_or_pos k with z | z
    · subst z
      have rr := r61n (d := d + 2) (lim := h.length) (c := 11) (m := 0) (rw_ := true) (S := []) (ov := .slice none 0 0) (L := L11 h v w D N 0 ++ [some ⟨[], true⟩]) s t AF (by omega) hf (by decide) rfl rfl rfl rfl rfl (by decide) rfl x0
      have q0 : E.call (d + 8) h.length 116 [yieldVal (h.length + 6), pB (h.length + 4), pB (h.length + 4 + 1)] (h.freeze ++ L7 h v w D N 0) = some (.tuple #[], h.freeze ++ (L11 h v w D N 0 ++ [some ⟨[], true⟩])) :=
        c116 (d := d + 7) (sz := 0) (Nat.le_refl _) (by decide) (c117y (d := d + 2) (b := 8) (m := 0) (S := []) (rw_ := true) (by decide) rfl rfl rfl rfl rfl rr)
      have RE : ∀ f, rangeEnd (h.length + 6) f (h.freeze ++ (L11 h v w D N 0 ++ [some ⟨[], true⟩])) = some (.normal, ⟨f, Heap.put (h.freeze ++ (L11 h v w D N 0 ++ [some ⟨[], true⟩])) (h.length + 6) none⟩) := fun f => by
        rw [rangeEnd_get (s := 0) (by rw [hget_base (by simp)]; rfl)]; rfl
      simp [L7, L11, rec61] at q0 RE
      simp [-collect_own1, k93, loopBlk, q0, RE, w11, cpD, St.tidy, collect_box, s.own, t.own, r, r']
      exact ⟨1, by omega, by omega, rfl⟩
    · obtain rfl : k = 1 := by omega
      have np : 0 < N.length := List.length_pos_iff.2 (fun e => by rw [e] at hn; cases hn)
      have npi : (1 : Int) < (N.length : Int) + 1 := by omega
      obtain ⟨L', out, bs', kc, B', ho⟩ := c117s (d := d + 1) (lim := h.length) (bs := 8) (cs := []) (L := L11 h v w D N 1) s t AF (by omega) hf (Nat.le_refl _) (by omega) hD hx' hu ⟨rfl, rfl, rfl, rfl, rfl, rfl, rfl, rfl, rfl, by show 11 ≤ 11; decide⟩ rfl rfl (by decide) (by decide) (by decide)
      have q0 : E.call (d + 8) h.length 116 [yieldVal (h.length + 6), pB (h.length + 4), pB (h.length + 4 + 1)] (h.freeze ++ L7 h v w D N 1) = some (.tuple #[], h.freeze ++ L') :=
        c116 (d := d + 7) (sz := 1) (Nat.le_refl _) (by decide) kc
      have RE : ∀ f, rangeEnd (h.length + 6) f (h.freeze ++ L') = some (.normal, ⟨f, Heap.put (h.freeze ++ L') (h.length + 6) none⟩) := fun f => by
        rw [rangeEnd_get (s := 0) (by rw [hget_base (by simp), B'.e6]; rfl)]; rfl
      simp [L7, rec61] at q0 RE
      unfold OutOk at ho
      rw [if_pos fd] at ho
      obtain ⟨b, c, b1, b2, b3, b4, b5, rfl, gb, gc⟩ := ho
      have gb' : (L'.set 6 none)[b]? = some (some ⟨[vS (h.length + c) 1], true⟩) := by rw [List.getElem?_set_ne (by omega), gb]
      have gc' : (L'.set 6 none)[c]? = some (some ⟨[i64 n], true⟩) := by rw [List.getElem?_set_ne (by omega), gc]
      have g3' : (L'.set 6 none)[3]? = some (some ⟨[vS (h.length + b) 1], true⟩) := by rw [List.getElem?_set_ne (by omega), B'.e3]
      generalize L'.set 6 none = M at *
      simp [k93, loopBlk, q0, RE, npi, g3', gb', gc', b3, b3.symm]
end U
end Go.Abs
