/- strings.Lines: what is yielded, line by line. -/
import Derived.Test.YtllhkifkiabkbaaGreatDoorAbsHXB
import Derived.Test.YtllhkifkiabkbaaGreatDoorAbsWpO
set_option linter.unusedSimpArgs false
set_option linter.unusedVariables false
/- strings.Lines: what is yielded, line by line. -/
namespace Go.Abs
namespace H.U
set_option maxRecDepth 100000
set_option maxHeartbeats 0
set_option linter.unusedSimpArgs false
abbrev pt (b : Nat) : Value := .pointer (some ⟨b, 0, none⟩)
theorem c44 {d lim : Nat} {h : Heap} {s : List UInt8} : E.call (d + 1) lim 44 [tx s] h = some (.func (.func 80) #[] #[pt h.length], h ++ [some ⟨[tx s], true⟩]) := by
  refine call_pure fn44 rfl (by simp [ef44]) ?_
  simp [ef44]
theorem c80 {d lim r b : Nat} {Q : List UInt8 → Heap → Prop} {F : Heap → Prop} (g : ∀ s H, Q s H → H.get b = some ⟨[tx s], true⟩ ∧ s.length < 100000 ∧ lim ≤ b) (en : ∀ H, Q [] H → F H)
    (full : ∀ a c H, (10 : UInt8) ∉ a → Q (a ++ 10 :: c) H → ∃ u H', EProg.roundOf E (E.call (d + 2)) lim r [tx (a ++ [10])] (H.put b (some ⟨[tx c], true⟩)) = some (.bool u, H') ∧ (if u = true then Q c H' else F H'))
    (rest : ∀ a H, (10 : UInt8) ∉ a → a ≠ [] → Q a H → ∃ u H', EProg.roundOf E (E.call (d + 2)) lim r [tx a] (H.put b (some ⟨[tx []], true⟩)) = some (.bool u, H') ∧ (if u = true then Q [] H' else F H'))
    {s : List UInt8} {H : Heap} (q : Q s H) : ∃ H', E.call (d + 3) lim 80 [yieldVal r, pt b] H = some (.tuple #[], H') ∧ F H' := by
  have key : ∃ v H', E.call (d + 3) lim 80 [yieldVal r, pt b] H = some (v, H') ∧ (v = .tuple #[] ∧ F H') := by
    refine full_ex (Q := fun v H' => v = .tuple #[] ∧ F H') fn80 rfl (by simp [ef80]) ?_
    have sl := (g s H q).2
    simp [ef80]
    refine wpC_loop (fun y st => ∃ (t : List UInt8) (G : Heap), y = t.length ∧ Q t G ∧ st = ⟨[(0, yieldVal r), (1, pt b)], G⟩) s.length (by show s.length < 2 ^ 64; omega) ?_ ?_
    · simp [St.tidy]
      exact ⟨s, rfl, q⟩
    · rintro y hy _ ⟨t, G, rfl, qt, rfl⟩
      obtain ⟨gb, tl, lb⟩ := g t G qt
      have ck := cell_get (o := 0) gb
      have ck' : G.cell b 0 = some (tx t) := ck
      rcases ht : t with _ | ⟨x, y⟩
      · subst ht
        have := en G qt
        simp [ck']
        exact this
      · have t0 : 0 < t.length := by rw [ht]; simp
        have t0' : (0 : Int) < t.length := by omega
        rw [← ht]
        by_cases hm : (10 : UInt8) ∈ t
        · obtain ⟨a, c, rfl, na⟩ := mem_split hm
          have ix := fun H' : Heap => c81 (d := d) (lim := lim) (h := H') (l := a ++ 10 :: c)
          simp only [idx_at na] at ix
          simp only [List.length_append, List.length_cons] at tl t0' t0
          have w1 : IntKind.i64.wrap ((a.length : Int) + 1) = ((a.length + 1 : Nat) : Int) := by rw [wrap_eq (by omega) (by omega)]; rfl
          obtain ⟨u, H', ro, hu⟩ := full a c G na qt
          have tk : (a ++ 10 :: c).take (a.length + 1) = a ++ [10] := by
            rw [List.take_append, List.take_of_length_le (by omega)]; simp
          have td : ((a ++ 10 :: c).take (a.length + (c.length + 1))).drop (a.length + 1) = c := by
            rw [List.take_of_length_le (by simp), ← List.drop_drop, List.drop_left]; rfl
          rcases u with _ | _
          · simp at hu
            simp [ck', ix, w1, t0, tk, td, gb, lb, ro, St.tidy]
            exact ⟨fun _ => ⟨by omega, hu⟩, fun z => by omega⟩
          · simp at hu
            simp [ck', ix, w1, t0, tk, td, gb, lb, ro, St.tidy]
            exact ⟨fun _ => ⟨by omega, c.length, by omega, c, rfl, hu⟩, fun z => by omega⟩
        · have ix := fun H' : Heap => c81 (d := d) (lim := lim) (h := H') (l := t)
          simp only [idx_no hm] at ix
          obtain ⟨u, H', ro, hu⟩ := rest t G hm (by rw [ht]; simp) qt
          rcases u with _ | _
          · simp at hu
            simp [ck', ix, t0, gb, lb, ro, St.tidy]
            exact hu
          · simp at hu
            simp [ck', ix, t0, gb, lb, ro, St.tidy]
            exact ⟨0, t0, [], rfl, hu⟩
  obtain ⟨_, H', e, rfl, hF⟩ := key
  exact ⟨H', e, hF⟩
end H.U
end Go.Abs
/- A list of counts of one's own that grows; one round of the reading of lines. -/
namespace Go.Abs
namespace H.U
set_option maxRecDepth 100000
set_option maxHeartbeats 0
set_option linter.unusedSimpArgs false
def OutE (base : Nat) (L : List (Option Blk)) (c : Nat) (v : Value) (l : List P6) : Prop :=
  (l = [] ∧ v = .slice none 0 0) ∨ (l ≠ [] ∧ v = .slice (some ⟨base + c, 0, none⟩) l.length 6 ∧ L[c]? = some (some ⟨cS enc6 l, true⟩))
theorem OutE.keep {base : Nat} {L L' : List (Option Blk)} {c : Nat} {v : Value} {l : List P6} (g : OutE base L c v l) (k : l ≠ [] → L'[c]? = L[c]?) : OutE base L' c v l := by
  rcases g with g | ⟨h1, h2, h3⟩
  · exact .inl g
  · exact .inr ⟨h1, h2, by rw [k h1, h3]⟩
theorem OutE.lt {base : Nat} {L : List (Option Blk)} {c : Nat} {v : Value} {l : List P6} (g : OutE base L c v l) (h : l ≠ []) : c < L.length := by
  rcases g with g | ⟨_, _, h3⟩
  · exact absurd g.1 h
  · exact lget_lt h3
theorem enc6_len (u : P6) : (enc6 u).length = 6 := rfl
theorem OutE.sl {H : Heap} {L : List (Option Blk)} {c : Nat} {v : Value} {l : List P6} (g : OutE H.length L c v l) : Sl6 (H ++ L) v l := by
  rcases g with ⟨rfl, rfl⟩ | ⟨_, rfl, h⟩
  · exact ⟨rfl, rfl, fun q => absurd rfl q, .inl rfl, fun k hk => by simp at hk⟩
  · exact Sl_own (f := enc6) (es := 6) enc6_len (by rw [hget_base rfl, h]; rfl) rfl
theorem OutE.appendT {B : Heap} {M : List (Option Blk)} {c : Nat} {v : Value} {l : List P6} {u : P6} (g : OutE B.length M c v l) (hl : l.length ≤ 100000) :
    ∃ o M', E.append (Heap.trim (B ++ (M ++ [some ⟨enc6 u, true⟩])) v) 6 48 v (.slice (some ⟨B.length + M.length, 0, none⟩) 1 6) = some o ∧ o.val = .slice (some ⟨B.length + (M.length + 1), 0, none⟩) (l.length + 1) 6 ∧
      o.eff.apply (B ++ (M ++ [some ⟨enc6 u, true⟩])) = B ++ M' ∧ o.eff.writes = (if l = [] then [] else [B.length + c]) ∧ M'.length = M.length + 2 ∧ M'[M.length + 1]? = some (some ⟨cS enc6 (l ++ [u]), true⟩) ∧ (∀ j, j < M.length → (l ≠ [] → j ≠ c) → M'[j]? = M[j]?) := by
  have gx : Heap.get (B ++ (M ++ [some ⟨enc6 u, true⟩])) (B.length + M.length) = some ⟨enc6 u, true⟩ := by rw [hget_base rfl, lget_right0 rfl]; rfl
  have ln : (B ++ (M ++ [some (Blk.mk (enc6 u) true)])).length = B.length + (M.length + 1) := by simp
  have a1 : (enc6 u).all Value.oneCell' = true := rfl
  have cl : (cS enc6 l).length = l.length * 6 := cS_len enc6_len l
  have ca : cS enc6 (l ++ [u]) = cS enc6 l ++ enc6 u := by simp [cS]
  rcases g with ⟨rfl, rfl⟩ | ⟨hne, rfl, hg⟩
  · rw [show Heap.trim (B ++ (M ++ [some (Blk.mk (enc6 u) true)])) (.slice none 0 0) = B ++ (M ++ [some (Blk.mk (enc6 u) true)]) from rfl]
    refine ⟨_, M ++ [some ⟨enc6 u, true⟩, some ⟨enc6 u, true⟩], app_one0 gx (enc6_len u) a1 (by decide) (by decide), by simp only [ln]; rfl, by simp [Eff.apply, Heap.push], rfl, by simp, by rw [lget_right rfl]; simp [cS], fun j hj _ => lget_left hj⟩
  · have lc := lget_lt hg
    have gc : Heap.get (B ++ (M ++ [some ⟨enc6 u, true⟩])) (B.length + c) = some ⟨cS enc6 l, true⟩ := by rw [hget_base rfl, lget_left lc, hg]; rfl
    have tr : Heap.trim (B ++ (M ++ [some ⟨enc6 u, true⟩])) (.slice (some ⟨B.length + c, 0, none⟩) l.length 6) = B ++ (M ++ [some ⟨enc6 u, true⟩]) := by
      unfold Heap.trim
      simp only [gc]
      rw [Nat.zero_add, ← cl, List.take_length, hput_base rfl]
      congr 1
      apply List.ext_getElem?
      intro j
      by_cases q : c = j
      · subst q; rw [List.getElem?_set_self (by simp; omega), lget_left lc, hg]
      · rw [List.getElem?_set_ne q]
    rw [tr]
    refine ⟨_, M.set c none ++ [some ⟨enc6 u, true⟩, some ⟨cS enc6 (l ++ [u]), true⟩], app_one gc (by rw [cl]) (by decide) gx (enc6_len u) a1 (by omega) (by omega), by simp only [ln], ?_, by rw [if_neg hne]; rfl, by simp, ?_, fun j hj h => ?_⟩
    · simp only [Eff.apply]
      rw [hput_base rfl, lset_left lc, ca]
      simp [Heap.push]
    · rw [show M.length + 1 = (M.set c none).length + 1 by simp, lget_right rfl]; rfl
    · rw [lget_left (by simpa using hj), List.getElem?_set_ne (fun e => h hne e.symm)]
/-- The record of the loop in Parse. -/
abbrev rec22 (n : Nat) (st : Int) : Option Blk := some ⟨.int .i64 (22 : Nat) :: .int .i64 (0 : Nat) :: .int .i64 st :: [pt n, pt (n + 1), pt (n + 2), pt (n + 3)], true⟩
/-- Six blocks: the results, what has been read, the rest of the text, the loop's record. -/
def HB (h : Heap) (n0 e0 : Int) (o : Value) (s : List UInt8) (st : Int) : Heap := h ++ [some ⟨[.slice none 0 0], true⟩, some ⟨[i64 n0], true⟩, some ⟨[i64 e0], true⟩, some ⟨[o], true⟩, some ⟨[tx s], true⟩, rec22 h.length st]
theorem HB_len (h : Heap) (n0 e0 : Int) (o : Value) (s : List UInt8) (st : Int) : (HB h n0 e0 o s st).length = h.length + 6 := by simp [HB]
theorem HB_get {h : Heap} {n0 e0 : Int} {o : Value} {s : List UInt8} {st : Int} {L : Heap} {j : Nat} (hj : j < 6) : Heap.get (HB h n0 e0 o s st ++ L) (h.length + j) = (([some ⟨[.slice none 0 0], true⟩, some ⟨[i64 n0], true⟩, some ⟨[i64 e0], true⟩, some ⟨[o], true⟩, some ⟨[tx s], true⟩, rec22 h.length st] : List (Option Blk))[j]?).getD none := by
  unfold HB
  rw [List.append_assoc, hget_base rfl, lget_left (by simpa using hj)]
theorem HB_get0 {h : Heap} {n0 e0 : Int} {o : Value} {s : List UInt8} {st : Int} {L : Heap} : Heap.get (HB h n0 e0 o s st ++ L) h.length = some ⟨[.slice none 0 0], true⟩ := HB_get (j := 0) (by decide)
theorem HB_put {h : Heap} {n0 e0 : Int} {o : Value} {s : List UInt8} {st : Int} {L : Heap} {j : Nat} {b : Option Blk} (hj : j < 6) : Heap.put (HB h n0 e0 o s st ++ L) (h.length + j) b = h ++ (([some ⟨[.slice none 0 0], true⟩, some ⟨[i64 n0], true⟩, some ⟨[i64 e0], true⟩, some ⟨[o], true⟩, some ⟨[tx s], true⟩, rec22 h.length st] : List (Option Blk)).set j b ++ L) := by
  unfold HB
  rw [List.append_assoc, hput_base rfl, lset_left (by simpa using hj)]
theorem HB_put1 {h : Heap} {n0 e0 n1 : Int} {o : Value} {s : List UInt8} {st : Int} {L : Heap} : Heap.put (HB h n0 e0 o s st ++ L) (h.length + 1) (some ⟨[i64 n1], true⟩) = HB h n1 e0 o s st ++ L := by
  rw [HB_put (by decide)]; unfold HB; rw [List.append_assoc]; rfl
theorem HB_put2 {h : Heap} {n0 e0 e1 : Int} {o : Value} {s : List UInt8} {st : Int} {L : Heap} : Heap.put (HB h n0 e0 o s st ++ L) (h.length + 2) (some ⟨[i64 e1], true⟩) = HB h n0 e1 o s st ++ L := by
  rw [HB_put (by decide)]; unfold HB; rw [List.append_assoc]; rfl
theorem HB_put0 {h : Heap} {n0 e0 : Int} {o : Value} {s : List UInt8} {st : Int} {L : Heap} : Heap.put (HB h n0 e0 o s st ++ L) h.length (some ⟨[.slice none 0 0], true⟩) = HB h n0 e0 o s st ++ L := by
  have := HB_put (h := h) (n0 := n0) (e0 := e0) (o := o) (s := s) (st := st) (L := L) (j := 0) (b := some ⟨[.slice none 0 0], true⟩) (by decide)
  rw [Nat.add_zero] at this
  rw [this]; unfold HB; rw [List.append_assoc]; rfl
theorem HB_put3 {h : Heap} {n0 e0 : Int} {o o1 : Value} {s : List UInt8} {st : Int} {L : Heap} : Heap.put (HB h n0 e0 o s st ++ L) (h.length + 3) (some ⟨[o1], true⟩) = HB h n0 e0 o1 s st ++ L := by
  rw [HB_put (by decide)]; unfold HB; rw [List.append_assoc]; rfl
theorem HB_put4 {h : Heap} {n0 e0 : Int} {o : Value} {s s1 : List UInt8} {st : Int} {L : Heap} : Heap.put (HB h n0 e0 o s st ++ L) (h.length + 4) (some ⟨[tx s1], true⟩) = HB h n0 e0 o s1 st ++ L := by
  rw [HB_put (by decide)]; unfold HB; rw [List.append_assoc]; rfl
theorem HB_put5 {h : Heap} {n0 e0 : Int} {o : Value} {s : List UInt8} {st st1 : Int} {L : Heap} : Heap.put (HB h n0 e0 o s st ++ L) (h.length + 5) (rec22 h.length st1) = HB h n0 e0 o s st1 ++ L := by
  rw [HB_put (by decide)]; unfold HB; rw [List.append_assoc]; rfl
theorem HB_loopSt {h : Heap} {n0 e0 : Int} {o : Value} {s : List UInt8} {st : Int} {L : Heap} : (HB h n0 e0 o s st ++ L).loopSt (h.length + 5) = some st := loopSt_get (HB_get (j := 5) (by decide))
theorem HB_setLoop {h : Heap} {n0 e0 : Int} {o : Value} {s : List UInt8} {st st1 : Int} {L : Heap} : (HB h n0 e0 o s st ++ L).setLoop (h.length + 5) st1 = some (HB h n0 e0 o s st1 ++ L) := by
  rw [setLoop_get (HB_get (j := 5) (by decide))]
  exact congrArg some HB_put5
theorem HB_cell {h : Heap} {n0 e0 : Int} {o : Value} {s : List UInt8} {st : Int} {L : Heap} : (HB h n0 e0 o s st ++ L).cell (h.length + 3) 0 = some o := by
  unfold Heap.cell
  rw [HB_get (j := 3) (by decide)]; rfl
theorem HB_er {h : Heap} {n0 e0 : Int} {o : Value} {s : List UInt8} {st : Int} {L : Heap} (e : H.Er h) : H.Er (HB h n0 e0 o s st ++ L) := by
  unfold HB
  rw [List.append_assoc]; exact e.app
theorem HB_cell' {h : Heap} {n0 e0 : Int} {o : Value} {s : List UInt8} {st : Int} : (HB h n0 e0 o s st).cell (h.length + 3) 0 = some o := by
  have := HB_cell (h := h) (n0 := n0) (e0 := e0) (o := o) (s := s) (st := st) (L := [])
  rwa [List.append_nil] at this
/-- A line that is read. -/
theorem r22ok {d lim c : Nat} {h : Heap} {o : Value} {out : List P6} {L : Heap} {a s1 : List UInt8} {l6 : List Int} (e : H.Er h) (hlim : lim ≤ h.length) (g : OutE (h.length + 6) L c o out) (ho : out.length ≤ 100000) (ha : a.length < 100000) (hx : nmP (whl 10) 6 a = (l6, true)) :
    ∃ o1 c1 L1, EProg.roundOf E (E.call (d + 5)) lim (h.length + 5) [tx (a ++ [10])] (HB h 0 0 o s1 0 ++ L) = some (.bool true, HB h 0 0 o1 s1 0 ++ L1) ∧ OutE (h.length + 6) L1 c1 o1 (out ++ [toP6 l6]) := by
  have l6l : l6.length = 6 := by have := nmP_len (R := whl 10) (cnt := 6) (s := a) (by rw [hx]); rw [hx] at this; exact this
  obtain ⟨n1, n2, n3, n4, n5, n6, rfl⟩ := six_of l6l
  have k55 : ∀ (s1 : List UInt8) (st : Int) (o : Value) (M : Heap), E.call (d + 5) lim 55 [tx a, i64 6, i64 10] (HB h 0 0 o s1 st ++ M) = some (.tuple #[.slice (some ⟨h.length + 6 + M.length, 0, none⟩) 6 1, .bool true], HB h 0 0 o s1 st ++ (M ++ [some ⟨[i64 n1, i64 n2, i64 n3, i64 n4, i64 n5, i64 n6], true⟩])) := fun s1 st o M => by
    have := c55 (d := d) (lim := lim) (cnt := 6) (k := 10) (s := a) (HB_er (n0 := 0) (e0 := 0) (o := o) (s := s1) (st := st) (L := M) e) ha (by omega) (by omega)
    rw [hx] at this
    simp only [lVI, lBI, if_neg (show ¬ [n1, n2, n3, n4, n5, n6] = [] by simp), List.length_append, HB_len] at this
    rw [List.append_assoc] at this
    exact this
  have k45 := fun H' : Heap => c45y (d := d + 2) (lim := lim) (h := H') (a := a) (by omega)
  obtain ⟨w, h', e1, e2⟩ : ∃ w h', EProg.roundOf E (E.call (d + 5)) lim (h.length + 5) [tx (a ++ [10])] (HB h 0 0 o s1 0 ++ L) = some (w, h') ∧ (w = .bool true ∧ ∃ o1 c1 L1, h' = HB h 0 0 o1 s1 0 ++ L1 ∧ OutE (h.length + 6) L1 c1 o1 (out ++ [((n1, n2, n3, n4), (n5, n6))])) := by
    have a1 : [i64 n1, i64 n2, i64 n3, i64 n4, i64 n5, i64 n6].all Value.oneCell' = true := rfl
    have G3 : ∀ o s st M, Heap.get (HB h 0 0 o s st ++ M) (h.length + 3) = some ⟨[o], true⟩ := fun o s st M => HB_get (j := 3) (by decide)
    have P3 : ∀ o o1 s st M, Heap.put (HB h 0 0 o s st ++ M) (h.length + 3) (some ⟨[o1], true⟩) = HB h 0 0 o1 s st ++ M := fun o o1 s st M => HB_put3
    have lim3 : lim ≤ h.length + 3 := by omega
    refine round1 (us := [pt h.length, pt (h.length + 1), pt (h.length + 2), pt (h.length + 3)]) (HB_get (j := 5) (by decide)) fn22 rfl rfl ?_
    have gx : Heap.get (HB h 0 0 o s1 (-1) ++ (L ++ [some ⟨[i64 n1, i64 n2, i64 n3, i64 n4, i64 n5, i64 n6], true⟩, some ⟨[i64 n1, i64 n2, i64 n3, i64 n4, i64 n5, i64 n6], true⟩])) (h.length + 6 + (L.length + 1)) = some ⟨[i64 n1, i64 n2, i64 n3, i64 n4, i64 n5, i64 n6], true⟩ := by
      rw [hget_base (HB_len h 0 0 o s1 (-1)).symm, lget_right rfl]; rfl
    have cl : (cS enc6 out).length = out.length * 6 := cS_len enc6_len out
    have ca := c6_snoc out n1 n2 n3 n4 n5 n6
    rcases g with ⟨rfl, rfl⟩ | ⟨hne, rfl, hg⟩
    · have ap := app_one0 (es := 6) (bytes := 48) gx rfl a1 (by decide) (by decide)
      simp only [List.length_append, List.length_cons, List.length_nil, HB_len] at ap
      simp [roundFrame, HB_loopSt, HB_setLoop, k45, k55, HB_len, HB_cell, HB_cell', fillL, ap, G3, P3, lim3]
      exact ⟨_, L.length + 2, _, rfl, .inr ⟨by simp, rfl, by rw [lget_right rfl]; rfl⟩⟩
    · have lc := lget_lt hg
      have gc : Heap.get (HB h 0 0 (.slice (some ⟨h.length + 6 + c, 0, none⟩) out.length 6) s1 (-1) ++ (L ++ [some ⟨[i64 n1, i64 n2, i64 n3, i64 n4, i64 n5, i64 n6], true⟩, some ⟨[i64 n1, i64 n2, i64 n3, i64 n4, i64 n5, i64 n6], true⟩])) (h.length + 6 + c) = some ⟨cS enc6 out, true⟩ := by
        rw [hget_base (HB_len ..).symm, lget_left lc, hg]; rfl
      have ap := app_one (es := 6) (bytes := 48) (n := out.length) gc (by rw [cl]) (by decide) gx rfl a1 (by omega) (by omega)
      rw [ca] at ap
      simp only [List.length_append, List.length_cons, List.length_nil, HB_len] at ap
      have PM : ∀ o s st M x, Heap.put (HB h 0 0 o s st ++ M) (h.length + 6 + c) x = HB h 0 0 o s st ++ M.set c x := fun o s st M x => hput_base (HB_len ..).symm
      have sl : ∀ N x, (L ++ N).set c x = L.set c x ++ N := fun N x => lset_left lc
      simp [roundFrame, HB_loopSt, HB_setLoop, k45, k55, HB_len, HB_cell, HB_cell', fillL, ap, G3, P3, lim3, PM, sl]
      exact ⟨_, L.length + 2, _, rfl, .inr ⟨by simp, by rw [List.length_append]; rfl, by rw [show L.length + 2 = (L.set c none).length + 2 by simp, lget_right rfl]; rfl⟩⟩
  obtain ⟨rfl, o1, c1, L1, rfl, g1⟩ := e2
  exact ⟨o1, c1, L1, e1, g1⟩
/-- A line that is wrong, or not ended. -/
theorem r22bad {d lim c : Nat} {h : Heap} {o : Value} {out : List P6} {L : Heap} {a t s1 : List UInt8} {u : Bool} (e : H.Er h) (hlim : lim ≤ h.length) (g : OutE (h.length + 6) L c o out) (ho : out.length ≤ 100000) (ha : a.length < 100000)
    (k45 : ∀ H' : Heap, E.call (d + 5) lim 45 [tx t, tx [10]] H' = some (.tuple #[tx a, .bool u], H')) (hx : u = true → (nmP (whl 10) 6 a).2 = false) :
    ∃ L1, EProg.roundOf E (E.call (d + 5)) lim (h.length + 5) [tx t] (HB h 0 0 o s1 0 ++ L) = some (.bool false, HB h (out.length + 1 : Nat) 7 o s1 1 ++ L1) := by
  have k55 : ∀ (s1 : List UInt8) (st : Int) (o : Value) (M : Heap), E.call (d + 5) lim 55 [tx a, i64 6, i64 10] (HB h 0 0 o s1 st ++ M) = some (.tuple #[lVI (HB h 0 0 o s1 st ++ M).length (nmP (whl 10) 6 a).1, .bool (nmP (whl 10) 6 a).2], HB h 0 0 o s1 st ++ (M ++ lBI (nmP (whl 10) 6 a).1)) := fun s1 st o M => by
    have := c55 (d := d) (lim := lim) (cnt := 6) (k := 10) (s := a) (HB_er (n0 := 0) (e0 := 0) (o := o) (s := s1) (st := st) (L := M) e) ha (by omega) (by omega)
    rw [List.append_assoc] at this
    exact this
  have sn : slN o = some out.length := by
    rcases g with ⟨rfl, rfl⟩ | ⟨_, rfl, _⟩ <;> rfl
  have w1 : IntKind.i64.wrap ((out.length : Int) + 1) = ((out.length + 1 : Nat) : Int) := by rw [wrap_eq (by omega) (by omega)]; rfl
  have G0 : ∀ n0 e0 o s st M, Heap.get (HB h n0 e0 o s st ++ M) h.length = some ⟨[.slice none 0 0], true⟩ := fun n0 e0 o s st M => HB_get0
  have G1 : ∀ n0 e0 o s st M, Heap.get (HB h n0 e0 o s st ++ M) (h.length + 1) = some ⟨[i64 n0], true⟩ := fun n0 e0 o s st M => HB_get (j := 1) (by decide)
  have G2 : ∀ n0 e0 o s st M, Heap.get (HB h n0 e0 o s st ++ M) (h.length + 2) = some ⟨[i64 e0], true⟩ := fun n0 e0 o s st M => HB_get (j := 2) (by decide)
  have lim1 : lim ≤ h.length + 1 := by omega
  have lim2 : lim ≤ h.length + 2 := by omega
  obtain ⟨w, h', e1, e2⟩ : ∃ w h', EProg.roundOf E (E.call (d + 5)) lim (h.length + 5) [tx t] (HB h 0 0 o s1 0 ++ L) = some (w, h') ∧ (w = .bool false ∧ ∃ L1, h' = HB h (out.length + 1 : Nat) 7 o s1 1 ++ L1) := by
    refine round1 (us := [pt h.length, pt (h.length + 1), pt (h.length + 2), pt (h.length + 3)]) (HB_get (j := 5) (by decide)) fn22 rfl rfl ?_
    rcases u with _ | _
    · simp [roundFrame, HB_loopSt, HB_setLoop, k45, k55, HB_len, HB_cell, HB_cell', sn, w1, G0, G1, G2, lim1, lim2, hlim, HB_put0, HB_put1, HB_put2]
      done
    · have hx := hx rfl
      simp [roundFrame, HB_loopSt, HB_setLoop, k45, k55, hx, HB_len, HB_cell, HB_cell', sn, w1, G0, G1, G2, lim1, lim2, hlim, HB_put0, HB_put1, HB_put2]
      done
  obtain ⟨rfl, L1, rfl⟩ := e2
  exact ⟨L1, e1⟩
end H.U
end Go.Abs
/- Texts of chapter 7: counts read by the code. -/
namespace Go.Abs
namespace H.U
set_option maxRecDepth 100000
set_option maxHeartbeats 0
set_option linter.unusedSimpArgs false
/-- Behind the loop. -/
def HN (h : Heap) (a0 : Value) (n0 e0 : Int) (o : Value) (s : List UInt8) : Heap := h ++ [some ⟨[a0], true⟩, some ⟨[i64 n0], true⟩, some ⟨[i64 e0], true⟩, some ⟨[o], true⟩, some ⟨[tx s], true⟩, none]
theorem HB_none {h : Heap} {n0 e0 : Int} {o : Value} {s : List UInt8} {st : Int} {L : Heap} : Heap.put (HB h n0 e0 o s st ++ L) (h.length + 5) none = HN h (.slice none 0 0) n0 e0 o s ++ L := by
  rw [HB_put (by decide)]; unfold HN; rw [List.append_assoc]; rfl
theorem rE {h : Heap} {n0 e0 : Int} {o : Value} {s : List UInt8} {st : Int} {L : Heap} (f : AFrame) : rangeEnd (h.length + 5) f (HB h n0 e0 o s st ++ L) = (jumpEx st).map fun ex => (ex, ⟨f, HN h (.slice none 0 0) n0 e0 o s ++ L⟩) := by
  rw [rangeEnd_get (HB_get (j := 5) (by decide)), HB_none]
/-- The loop over the lines. -/
theorem lines22 {d : Nat} {h : Heap} {s : List UInt8} (e : H.Er h) (hl : s.length ≤ 60000) :
    ∃ H', E.call (d + 6) h.length 80 [yieldVal (h.length + 5), pt (h.length + 4)] (HB h 0 0 (.slice none 0 0) s 0) = some (.tuple #[], H') ∧
      ((∃ o c L rows t, H' = HB h 0 0 o t 0 ++ L ∧ OutE (h.length + 6) L c o (rows.map toP6) ∧ rdL (whl 10) 6 (cutB 10 s) [] = (rows, 0, 0) ∧ rows.length ≤ 60000) ∨ (∃ n o t L, H' = HB h (n : Nat) 7 o t 1 ++ L ∧ rdL (whl 10) 6 (cutB 10 s) [] = ([], n, 7))) := by
  let Q : List UInt8 → Heap → Prop := fun t H' => ∃ o c L rows, H' = HB h 0 0 o t 0 ++ L ∧ OutE (h.length + 6) L c o (rows.map toP6) ∧ t.length + rows.length ≤ 60000 ∧ rdL (whl 10) 6 (cutB 10 s) [] = rdL (whl 10) 6 (cutB 10 t) rows
  have q0 : Q s (HB h 0 0 (.slice none 0 0) s 0) := ⟨.slice none 0 0, 0, [], [], by rw [List.append_nil], .inl ⟨rfl, rfl⟩, by simpa using hl, rfl⟩
  refine c80 (d := d + 3) (Q := Q) (F := fun H' => (∃ o c L rows t, H' = HB h 0 0 o t 0 ++ L ∧ OutE (h.length + 6) L c o (rows.map toP6) ∧ rdL (whl 10) 6 (cutB 10 s) [] = (rows, 0, 0) ∧ rows.length ≤ 60000) ∨ (∃ n o t L, H' = HB h (n : Nat) 7 o t 1 ++ L ∧ rdL (whl 10) 6 (cutB 10 s) [] = ([], n, 7))) (fun t H' ⟨o, c, L, rows, e1, _, e3, _⟩ => ?_) (fun H' ⟨o, c, L, rows, e1, e2, e3, e4⟩ => ?_) (fun a x H' na ⟨o, c, L, rows, e1, e2, e3, e4⟩ => ?_) (fun a H' na a0 ⟨o, c, L, rows, e1, e2, e3, e4⟩ => ?_) q0
  · subst e1
    exact ⟨HB_get (j := 4) (by decide), by omega, by omega⟩
  · subst e1
    exact .inl ⟨o, c, L, rows, [], rfl, e2, by rw [e4]; rfl, by omega⟩
  · subst e1
    rw [HB_put4]
    simp only [List.length_append, List.length_cons] at e3
    rw [rd_line na] at e4
    rcases hx : nmP (whl 10) 6 a with ⟨l6, u⟩
    rw [hx] at e4
    rcases u with _ | _
    · obtain ⟨L1, r1⟩ := r22bad (d := d) (lim := h.length) (s1 := x) (u := true) e (Nat.le_refl _) e2 (by simp; omega) (by omega) (fun H' => c45y (d := d + 2) (a := a) (by omega)) (fun _ => by rw [hx])
      refine ⟨false, _, r1, ?_⟩
      rw [if_neg (by decide)]
      simp only [Bool.false_eq_true, if_false] at e4
      exact .inr ⟨_, o, x, L1, rfl, by rw [e4]; simp⟩
    · obtain ⟨o1, c1, L1, r1, g1⟩ := r22ok (d := d) (lim := h.length) (s1 := x) e (Nat.le_refl _) e2 (by simp; omega) (by omega) hx
      refine ⟨true, _, r1, ?_⟩
      rw [if_pos rfl]
      simp only [if_true] at e4
      exact ⟨o1, c1, L1, rows ++ [l6], rfl, by simpa using g1, by simp; omega, e4⟩
  · subst e1
    rw [HB_put4]
    obtain ⟨L1, r1⟩ := r22bad (d := d) (lim := h.length) (s1 := []) (u := false) e (Nat.le_refl _) e2 (by simp; omega) (a := a) (by omega) (fun H' => c45n (d := d + 2) na (by omega)) (fun q => by cases q)
    refine ⟨false, _, r1, ?_⟩
    rw [if_neg (by decide)]
    rw [rd_rest na a0] at e4
    exact .inr ⟨_, o, [], L1, rfl, by rw [e4]; simp⟩
end H.U
end Go.Abs
/- Texts of chapter 7: counts read by the code, all of it. -/
namespace Go.Abs
namespace H.U
set_option maxRecDepth 100000
set_option maxHeartbeats 0
set_option linter.unusedSimpArgs false
theorem collect_at {n j k es : Nat} {H : Heap} {B : List Value} {x y : Int} (g : H.get (n + j) = some ⟨B, true⟩) (p : B.all plainV = true) :
    collect n [.tuple #[.slice (some ⟨n + j, 0, none⟩) k es, i64 x, i64 y]] H = some ([.tuple #[.slice (some ⟨n, 0, none⟩) k es, i64 x, i64 y]], [some ⟨B, true⟩]) := by
  simp [g, p]
theorem c22 {d lim : Nat} {h : Heap} {s : List UInt8} (e : H.Er h) (hl : s.length < 100000) : E.call (d + 7) lim 22 [tx s] h = some (.tuple #[lV6 h.length (prsU (whl 10) s).1, i64 ((prsU (whl 10) s).2.1 : Nat), i64 (prsU (whl 10) s).2.2], h ++ lB6 (prsU (whl 10) s).1) := by
  refine call_pure fn22 rfl (by simp [ef22]) ?_
  by_cases h3 : 60000 < s.length
  · have h3' : (60000 : Int) < s.length := by omega
    simp [ef22, h3', prsU, h3, lV6, lB6]
  have h3' : ¬ (60000 : Int) < s.length := by omega
  obtain ⟨H', k80, alt⟩ := lines22 (d := d) (h := h.freeze) e.freeze (s := s) (by omega)
  simp [HB, rec22] at k80
  obtain ⟨res, hres⟩ : ∃ res, res = prsU (whl 10) s := ⟨_, rfl⟩
  rw [← hres]
  unfold prsU at hres
  rw [if_neg h3] at hres
  have rr := fun n0 e0 o t st L f => rE (h := h.freeze) (n0 := n0) (e0 := e0) (o := o) (s := t) (st := st) (L := L) f
  simp [HN] at rr
  rcases alt with ⟨o, c, L, rows, t, rfl, g, er, le⟩ | ⟨n, o, t, L, rfl, er⟩
  · rw [er] at hres
    simp only [if_true] at hres
    have sl := g
    rw [show h.freeze.length + 6 = (HN h.freeze (.slice none 0 0) 0 0 o t).length by simp [HN]] at sl
    have k61 := c61 (d := d + 1) (lim := h.length) sl.sl
    simp [HN] at k61
    by_cases z : chkN (rows.map toP6) = 0
    · rw [if_pos z] at hres
      rw [z] at k61
      rcases g with ⟨g1, rfl⟩ | ⟨hne, rfl, hg⟩
      · subst hres
        simp [ef22, h3', c44, loopBlk, k80, rr, k61, lV6, lB6, g1]
        done
      · subst hres
        have gb : Heap.get (h.freeze ++ (some ⟨[.slice (some ⟨h.length + 6 + c, 0, none⟩) (rows.map toP6).length 6], true⟩ :: some ⟨[i64 0], true⟩ :: some ⟨[i64 0], true⟩ :: some ⟨[.slice (some ⟨h.length + 6 + c, 0, none⟩) (rows.map toP6).length 6], true⟩ :: some ⟨[tx t], true⟩ :: none :: L)) (h.length + 6 + c) = some ⟨cS enc6 (rows.map toP6), true⟩ := by
          rw [Nat.add_assoc, hget_base (by simp), show 6 + c = c + 6 by omega]
          simp only [List.getElem?_cons_succ, hg]; rfl
        have pl := c6_pl (rows.map toP6)
        rw [Nat.add_assoc] at gb
        have cc := collect_at (k := rows.length) (es := 6) (x := 0) (y := 0) gb pl
        rw [← Nat.add_assoc] at cc
        simp only [List.length_map] at gb
        simp only [List.length_map, Heap.length_freeze] at k61
        simp [-collect_own1, ef22, h3', c44, loopBlk, k80, rr, k61, lV6, lB6, hne]
        rw [List.length_map] at cc
        exact cc
    · rw [if_neg z] at hres
      subst hres
      simp [ef22, h3', c44, loopBlk, k80, rr, k61, z, lV6, lB6]
      done
  · rw [er] at hres
    simp only at hres
    rw [if_neg (by decide)] at hres
    subst hres
    simp [ef22, h3', c44, loopBlk, k80, rr, lV6, lB6]
    done
end H.U
end Go.Abs
