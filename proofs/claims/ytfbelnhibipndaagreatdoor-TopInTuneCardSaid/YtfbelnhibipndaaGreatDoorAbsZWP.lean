/- Nothing fails: no suspects. No tests at all. -/
import Derived.Test.YtfbelnhibipndaaGreatDoorAbsZWN
import Derived.Test.YtfbelnhibipndaaGreatDoorAbsZUOP
set_option linter.unusedSimpArgs false
set_option linter.unusedVariables false
/- Nothing fails: no suspects. No tests at all. -/
namespace Go.Abs
namespace Z.U
set_option maxRecDepth 100000
set_option maxHeartbeats 0
set_option linter.unusedSimpArgs false
theorem fndI_nil (x : Int) : fndI [] x = false := by
  unfold fndI
  exact decide_eq_false fun z => absurd z.1 (Nat.not_lt_zero _)
theorem cfE_nil {l : List P4} (h : chkTs l = 0) : cfE l [] = 0 := by
  unfold cfE
  rw [if_pos h]
  have : ascB [] = true := by decide +kernel
  simp [this]
theorem clK_nil (l : List P4) : ∀ k, clK l [] [] k = false
  | 0 => rfl
  | k + 1 => by
    have e : ∀ y, hasI [] y = false := fun y => by unfold hasI; exact decide_eq_false (Nat.not_lt_zero _)
    unfold clK
    rw [clK_nil l k, e, e]; rfl
theorem exE_nil (l : List P4) : exE l [] [] = 0 := by
  have g : fstE (gapE l [] []) l.length 0 = 0 := (fstE_all _ 0 rfl).2 fun j _ _ => by unfold gapE; rw [fndI_nil, if_neg (fun z => by cases z.1)]
  unfold exE
  rw [if_pos g, clK_nil, if_neg (by decide)]
theorem exE_none {l : List P4} {x : Int} (O : TOk l) (h : x ∈ ntD l) : exE l [] [x] ≠ 0 := by
  rw [Ne, exE_one O]
  intro z
  have hx : x ∈ ntS l := mem_dd _ (Nat.le_refl _) h
  obtain ⟨i, hi, e⟩ := (mem_nts _).1 (mem_ntS.1 hx)
  have y : isIn (at4 l i) x = true := by unfold isIn; rcases e with e | e <;> simp [e]
  rw [← z i hi, fndI_nil] at y
  cases y
theorem suK_none {l : List P4} {N : List Int} (h : ∀ x ∈ N, exE l [] [x] ≠ 0) : ∀ k, k ≤ N.length → suK l [] N k = []
  | 0, _ => rfl
  | k + 1, hk => by
    unfold suK
    rw [if_neg (h _ (gI_mem (by omega))), suK_none h k (by omega)]
theorem suA_none {l : List P4} (O : TOk l) : suA l [] = [] := suK_none (fun _ h => exE_none O h) _ (Nat.le_refl _)
theorem TOk.nil : TOk [] := ⟨by decide, fun i hi => absurd hi (Nat.not_lt_zero _), fun i hi => absurd hi (Nat.not_lt_zero _)⟩
theorem nil_own {h : Heap} : SlI' h (.slice none 0 0) [] := ⟨rfl, rfl, fun h => absurd rfl h, .inl rfl, fun k hk => absurd hk (Nat.not_lt_zero k)⟩
theorem nil3 {h : Heap} : Sl3 h (.slice none 0 0) [] := ⟨rfl, rfl, fun h => absurd rfl h, .inl rfl, fun k hk => absurd hk (Nat.not_lt_zero k)⟩
theorem nil6 {h : Heap} : Sl6 h (.slice none 0 0) [] := ⟨rfl, rfl, fun h => absurd rfl h, .inl rfl, fun k hk => absurd hk (Nat.not_lt_zero k)⟩
theorem c38e {d lim F : Nat} {h : Heap} {v : Value} {C : List Value} {nm : ByteArray} {P S : Nat → Int} {X b : Int} (s : Sl4 h v []) (t : Tm C nm P S) (hs : nm.size ≤ 1000) (h0 : chkT nm P S = 0) (hF : 1 ≤ F ∧ F ≤ 1000000) :
    E.call (d + 10) lim 38 [.agg C.toArray, v, .agg #[i64 F, i64 X, i64 b]] h = some (.tuple #[.slice none 0 0, .bool true], h) := by
  have r := s.rules2
  have k70 := fun (L : Heap) lim => c70 (d := d + 7) (lim := lim) ((Sl_freeze.2 s).app L) (by decide)
  have e70 : rn [] 88 = [] := by decide
  rw [e70] at k70
  simp only [lV, lB, if_true, List.append_nil] at k70
  have tp := t.plain
  have tuz : tuE nm P S F = 0 := by
    unfold tuE
    have : isFork (F : Int) = true := by simp [isFork, Z.within]; omega
    rw [if_pos h0, if_pos this]
  have k67 := fun (L : Heap) lim => c67 (d := d + 4) (lim := lim) (h := h.freeze ++ L) nil3 ((Sl_freeze.2 s).app L)
  have eh : hErr [] [] = 0 := by decide +kernel
  have e6 : hL [] [] 0 = [] := rfl
  simp only [hVal, hBlk, eh, sl6, bl6, List.length_nil, e6, if_true, List.append_nil] at k67
  have k22 := fun (L : Heap) lim => c22 (d := d) (lim := lim) (h := h.freeze ++ L) (F := (F : Int)) (bt := fun _ => (0, 0)) nil6 t hs (fun _ _ i hi => absurd hi (Nat.not_lt_zero _))
  have ec : chkN [] = 0 := by decide +kernel
  simp only [tuz, ec, and_self, if_true, fdL, iV, iB, List.length_nil, List.append_nil] at k22
  refine call1 fn38 rfl (by simp [ef38]) ?_
  simp [-collect_own1, ef38, k70, t.len, t.take]
  refine wpC_loop (fun q st => q = 0 ∧ st = ⟨[(1, v), (3, .pointer (some ⟨h.length, 0, none⟩)), (5, .pointer (some ⟨h.length + 1, 0, none⟩)), (8, .slice none 0 0), (9, .slice none 0 0), (10, i64 0)], h.freeze ++ [some ⟨C, true⟩, some ⟨[i64 F, i64 X, i64 b], true⟩]⟩) 0 (by show 0 < 2 ^ 64; decide) ?_ ?_
  · simp [-collect_own1, tp, St.tidy, collect_box, s.own, r]
  · rintro q hq _ ⟨rfl, rfl⟩
    simp [k67, k22, t.len, t.take]
theorem c39z {d lim : Nat} {h : Heap} {v : Value} (s : Sl4 h v []) : E.call (d + 9) lim 39 [v, .slice none 0 0] h = some (.tuple #[.slice none 0 0, i64 0], h) := by
  have r := s.rules2
  have k91 := fun (L : Heap) lim => c72 (d := d + 3) (lim := lim) (S := []) ((Sl_freeze.2 s).app L) nil_own (by decide)
  have k85 := fun (L : Heap) lim => c73 (D := d) (lim := lim) ((Sl_freeze.2 s).app L) (by decide)
  simp only [ntV, ntB, List.length_nil, if_true, List.append_nil, cfE_nil (l := []) (by decide +kernel)] at k85 k91
  have k85' := fun lim => k85 [] lim
  have k91' := fun lim => k91 [] lim
  simp only [List.append_nil] at k85' k91'
  refine call1 fn39 rfl (by simp [ef39]) ?_
  simp [ef39, k91, k85, k91', k85']
  refine wpC_loop (fun q st => q = 0 ∧ st = ⟨[(0, v), (1, .slice none 0 0), (7, .slice none 0 0), (17, .slice none 0 0), (18, i64 0), (19, i64 0)], h.freeze⟩) 0 (by show 0 < 2 ^ 64; decide) ?_ ?_
  · simp [St.tidy, s.own, r]
  · rintro q hq _ ⟨rfl, rfl⟩
    simp
end Z.U
end Go.Abs
/- No tests at all: the smallest explanation. -/
namespace Go.Abs
namespace Z.U
set_option maxRecDepth 100000
set_option maxHeartbeats 0
set_option linter.unusedSimpArgs false
abbrev rec61e (n : Nat) (st : Int) : Option Blk := some ⟨.int .i64 (40 : Nat) :: .int .i64 (0 : Nat) :: .int .i64 st :: [pB n, pB (n + 1), pB (n + 2)], true⟩
/-- One set is looked at: it is the first explanation. -/
theorem r61e {d lim c m : Nat} {h : Heap} {v w : Value} {l : List P4} {F S : List Int} {L : List (Option Blk)} {rw_ : Bool} (s : Sl4 h v l) (t : SlI' h w F) (O : AscL F) (hl : l.length ≤ 1000) (hf : F.length ≤ 1000) (hs : S.length ≤ 1000)
    (e0 : L[0]? = some (some ⟨[v], true⟩)) (e1 : L[1]? = some (some ⟨[w], true⟩)) (e3 : L[2]? = some (some ⟨[.slice none 0 0], true⟩)) (e6 : L[5]? = some (rec61e h.length 0)) (ec : L[c]? = some (some ⟨cI S, rw_⟩)) (c6 : c ≠ 5) (hm : m = S.length) (x0 : exE l F S = 0) (hlim : lim ≤ h.length) :
    EProg.roundOf E (E.call (d + 4)) lim (h.length + 5) [vS (h.length + c) m] (h.freeze ++ L) = some (.bool true, h.freeze ++ (L.set 2 (some ⟨[vS (h.length + (L.length + 1)) 1], true⟩) ++ [some ⟨[vS (h.length + c) m], true⟩, some ⟨[vS (h.length + c) m], true⟩])) := by
  have key : ∃ w h', EProg.roundOf E (E.call (d + 4)) lim (h.length + 5) [vS (h.length + c) m] (h.freeze ++ L) = some (w, h') ∧ w = .bool true ∧ h' = h.freeze ++ (L.set 2 (some ⟨[vS (h.length + (L.length + 1)) 1], true⟩) ++ [some ⟨[vS (h.length + c) m], true⟩, some ⟨[vS (h.length + c) m], true⟩]) := by
    have G : ∀ L' : List (Option Blk), Heap.get (h.freeze ++ L') (h.length + 5) = (L'[5]?).getD none := fun L' => hget_base (by simp)
    refine round1 (us := [pB h.length, pB (h.length + 1), pB (h.length + 2)]) (by rw [G, e6]; rfl) fn40 rfl rfl ?_
    have l6 : 5 < L.length := by
      rcases Nat.lt_or_ge 5 L.length with z | z
      · exact z
      · rw [List.getElem?_eq_none z] at e6; cases e6
    have LS0 : Heap.loopSt (h.freeze ++ L) (h.length + 5) = some 0 := loopSt_get (by rw [G, e6]; rfl)
    have SL0 : ∀ st', Heap.setLoop (h.freeze ++ L) (h.length + 5) st' = some (h.freeze ++ L.set 5 (rec61e h.length st')) := fun st' => by rw [setLoop_get (by rw [G, e6]; rfl), hput_base (by simp)]
    have S0 : L.set 5 (rec61e h.length 0) = L := set_id e6
    have k92 := fun lim => c74 (d := d) (lim := lim) (F := F) (S := S) (h := h.freeze ++ L.set 5 (rec61e h.length (-1))) (u := vS (h.length + c) m) ((Sl_freeze.2 s).app _) ((Sl_freeze.2 t).app _) (SlI'_own (rw := rw_) (by rw [hget_base (by simp), List.getElem?_set_ne (by omega), ec]; rfl) hm) O hl hf hs
    have l3 : 2 < L.length := by omega
    have l3b : ¬ L.length ≤ 2 := by omega
    have g3 : ∀ X : List (Option Blk), (L.set 5 (rec61e h.length (-1)) ++ X)[2]? = some (some ⟨[.slice none 0 0], true⟩) := fun X => by rw [List.getElem?_append_left (by rw [List.length_set]; omega), List.getElem?_set_ne (by omega), e3]
    have p3 : ∀ (X : List (Option Blk)) b, (L.set 5 (rec61e h.length (-1)) ++ X).set 2 b = (L.set 2 b).set 5 (rec61e h.length (-1)) ++ X := fun X b => by rw [List.set_append_left _ _ (by rw [List.length_set]; omega), List.set_comm _ _ (by omega)]
    have e6' : ∀ b, (L.set 2 b)[5]? = some (rec61e h.length 0) := fun b => by rw [List.getElem?_set_ne (by omega), e6]
    have SL1 : ∀ (X : List (Option Blk)) b, Heap.setLoop (h.freeze ++ ((L.set 2 b).set 5 (rec61e h.length (-1)) ++ X)) (h.length + 5) 0 = some (h.freeze ++ (L.set 2 b ++ X)) := fun X b => by
      rw [setLoop_get (a := .int .i64 (40 : Nat)) (b := .int .i64 (0 : Nat)) (c := .int .i64 (-1)) (us := [pB h.length, pB (h.length + 1), pB (h.length + 2)]) (by rw [G, List.getElem?_append_left (by simp; omega)]; simp [l6]), hput_base (by simp), List.set_append_left _ _ (by simp; omega), List.set_set, set_id (e6' b)]
    have hlim3 : lim ≤ h.length + 2 := by omega
    have mx : 1 ≤ maxLen := by decide
    simp [roundFrame, LS0, SL0, S0, e0, e1, e3, k92, x0, fillL, zeros, E.append, E.added, g3, p3, SL1, hlim3, mx]
  obtain ⟨_, _, e, rfl, rfl⟩ := key
  exact e
abbrev a117e (n : Nat) (k : Int) : List Value := [i64 k, pB (n + 8), pB (n + 3), pB (n + 6), pB (n + 4), pB (n + 9)]
abbrev f117e (n : Nat) : Value := .func (.func 120) #[] #[pB (n + 8), pB (n + 3), pB (n + 6), pB (n + 4), pB (n + 9)]
theorem c120e {d lim b m : Nat} {k : Int} {h H' : Heap} {S : List Int} {L : List (Option Blk)} {rw_ : Bool} (hs : S.length ≤ 1000) (e4 : L[3]? = some (some ⟨[i64 m], true⟩)) (e7 : L[6]? = some (some ⟨[yieldVal (h.length + 5)], true⟩)) (e9 : L[8]? = some (some ⟨[vS (h.length + b) m], true⟩))
    (eb : L[b]? = some (some ⟨cI S, rw_⟩)) (hm : m = S.length) (hr : EProg.roundOf E (E.call (d + 4)) lim (h.length + 5) [vS (h.length + L.length) m] (h.freeze ++ (L ++ [some ⟨cI S, true⟩])) = some (.bool true, H')) :
    E.call (d + 5) lim 120 (a117e h.length k) (h.freeze ++ L) = some (.bool true, H') := by
  subst hm
  refine call_full fn120 rfl (by simp [ef120]) ?_
  have k118 := fun lim => c121 (d := d + 3) (lim := lim) (h := Heap.freeze (h.freeze ++ L)) (b := h.length + b) (n := S.length) (l := S) (SlI'_own (rw := false) (hget_freeze (k := ⟨cI S, rw_⟩) (by rw [hget_base (by simp), eb]; rfl)) rfl) (by omega)
  simp [ef120, e4, e7, e9, k118, hr]
abbrev L7e (h : Heap) (v w : Value) (sz : Int) : List (Option Blk) := [some ⟨[v], true⟩, some ⟨[w], true⟩, some ⟨[.slice none 0 0], true⟩, some ⟨[i64 sz], true⟩, some ⟨[.slice none 0 0], true⟩, rec61e h.length 0]
abbrev L11e (h : Heap) (v w : Value) (sz : Int) : List (Option Blk) := [some ⟨[v], true⟩, some ⟨[w], true⟩, some ⟨[.slice none 0 0], true⟩, some ⟨[i64 sz], true⟩, some ⟨[.slice none 0 0], true⟩, rec61e h.length 0,
  some ⟨[yieldVal (h.length + 5)], true⟩, some ⟨[], true⟩, some ⟨[vS (h.length + 7) 0], true⟩, some ⟨[f117e h.length], true⟩]
theorem c119e {d lim : Nat} {h : Heap} {v w : Value} {sz : Nat} {L' : List (Option Blk)} (hlim : lim ≤ h.length) (hs : sz ≤ 12) (k : E.call d lim 120 (a117e h.length 0) (h.freeze ++ L11e h v w sz) = some (.bool true, h.freeze ++ L')) :
    E.call (d + 1) lim 119 [yieldVal (h.length + 5), pB (h.length + 3), pB (h.length + 4)] (h.freeze ++ L7e h v w sz) = some (.tuple #[], h.freeze ++ L') := by
  refine call_full fn119 rfl (by simp [ef119]) ?_
  have l9 : lim ≤ h.length + 8 := by omega
  have l10 : lim ≤ h.length + 9 := by omega
  have zs : zeros [Value.int .i64 0] 0 = [] := rfl
  have mx : sz ≤ maxLen := by unfold maxLen; omega
  have by8 : 8 * (sz : Int) ≤ 140737488355328 := by omega
  have cy : (yieldVal (h.length + 5)).cells = #[yieldVal (h.length + 5)] := rfl
  unfold Value.cells at cy
  simp [ef119, zs, l9, l10, mx, cy]
  refine ⟨by8, ?_⟩
  rw [k]
  simp
theorem c75e {d lim : Nat} {h : Heap} {k : Int} : E.call (d + 1) lim 75 [.slice none 0 0, i64 k] h = some (.func (.func 119) #[] #[pB h.length, pB (h.length + 1)], h ++ [some ⟨[i64 k], true⟩, some ⟨[.slice none 0 0], true⟩]) := by
  refine call_pure fn75 rfl (by simp [ef75]) ?_
  simp [ef75]
theorem c40e {d lim : Nat} {h : Heap} {v : Value} (s : Sl4 h v []) :
    E.call (d + 9) lim 40 [v, .slice none 0 0] h = some (.tuple #[vS h.length 1, i64 0], h ++ [some ⟨[vS (h.length + 1) 0], true⟩, some ⟨[], true⟩]) := by
  have r := s.rules2
  have k91 := fun (L : Heap) lim => c72 (d := d + 3) (lim := lim) (S := []) ((Sl_freeze.2 s).app L) nil_own (by decide)
  have k85 := fun (L : Heap) lim => c73 (D := d) (lim := lim) ((Sl_freeze.2 s).app L) (by decide)
  simp only [ntV, ntB, List.length_nil, if_true, List.append_nil, cfE_nil (l := []) (by decide +kernel)] at k85 k91
  refine call_pure fn40 rfl (by simp [ef40]) ?_
  have cv : v.cells = #[v] := by rcases s.low with e | ⟨b, o, n, k, e, hb⟩ <;> subst e <;> rfl
  unfold Value.cells at cv
  have w11 : IntKind.wrap .i64 1 = 1 := wrap_eq (by omega) (by omega)
  simp [-collect_own1, ef40, cv, k91, k85, w11]
  refine wpC_loop (fun q st => q = 0 ∧ st = ⟨[(2, pB h.length), (3, pB (h.length + 1)), (7, .slice none 0 0), (24, i64 1), (25, i64 0)], h.freeze ++ [some ⟨[v], true⟩, some ⟨[.slice none 0 0], true⟩]⟩) 0 (by show 0 < 2 ^ 64; decide) ?_ ?_
  · simp [-collect_own1, St.tidy, collect_box, s.own, r]
  · rintro q hq _ ⟨rfl, rfl⟩
    have k93 := fun (L : Heap) (x : Int) lim => c75e (d := d + 7) (lim := lim) (h := h.freeze ++ L) (k := x)
    have rr := r61e (d := d + 2) (lim := h.length) (c := 10) (m := 0) (rw_ := true) (S := []) (L := L11e h v (.slice none 0 0) 0 ++ [some (Blk.mk [] true)]) s nil_own (fun i j _ hj => absurd hj (Nat.not_lt_zero _)) (by decide) (by decide) (by decide) rfl rfl rfl rfl rfl (by decide) rfl (exE_nil []) (Nat.le_refl _)
    have q0 : E.call (d + 8) h.length 119 [yieldVal (h.length + 5), pB (h.length + 3), pB (h.length + 3 + 1)] (h.freeze ++ L7e h v (.slice none 0 0) 0) = some (.tuple #[], h.freeze ++ ((L11e h v (.slice none 0 0) 0 ++ [some (Blk.mk [] true)]).set 2 (some (Blk.mk [vS (h.length + 12) 1] true)) ++ [some ⟨[vS (h.length + 10) 0], true⟩, some ⟨[vS (h.length + 10) 0], true⟩])) :=
      c119e (d := d + 7) (sz := 0) (Nat.le_refl _) (by decide) (c120e (d := d + 2) (b := 7) (m := 0) (S := []) (rw_ := true) (by decide) rfl rfl rfl rfl rfl rr)
    have RE : ∀ f, rangeEnd (h.length + 5) f (h.freeze ++ ((L11e h v (.slice none 0 0) 0 ++ [some (Blk.mk [] true)]).set 2 (some (Blk.mk [vS (h.length + 12) 1] true)) ++ [some ⟨[vS (h.length + 10) 0], true⟩, some ⟨[vS (h.length + 10) 0], true⟩])) = some (.normal, ⟨f, Heap.put (h.freeze ++ ((L11e h v (.slice none 0 0) 0 ++ [some (Blk.mk [] true)]).set 2 (some (Blk.mk [vS (h.length + 12) 1] true)) ++ [some ⟨[vS (h.length + 10) 0], true⟩, some ⟨[vS (h.length + 10) 0], true⟩])) (h.length + 5) none⟩) := fun f => by
      rw [rangeEnd_get (s := 0) (by rw [hget_base (by simp)]; rfl)]; rfl
    simp [L7e, L11e, rec61e] at q0 RE
    have ad : (Blk.mk [] true).addrs = some [] := rfl
    simp [k93, loopBlk, q0, RE, r, ad]
    rfl
end Z.U
end Go.Abs
/- The law TopInTune. -/
namespace Go.Abs
namespace Z.U
set_option maxRecDepth 100000
set_option maxHeartbeats 0
set_option linter.unusedSimpArgs false
/-- What is heard: the tests of the wrong note. -/
def hdL (l : List P4) (X b : Int) : List Int := if decide (b ≠ 0) = true then sg l X l.length else []
theorem heard {d lim F : Nat} {h : Heap} {v : Value} {l : List P4} {C : List Value} {nm : ByteArray} {P S : Nat → Int} {X b : Int} (s : Sl4 h v l) (sp : SlU h v3p [2, 3, 5]) (t : Tm C nm P S) (hs : nm.size ≤ 1000) (h0 : chkT nm P S = 0)
    (hF : 1000 ≤ F ∧ F ≤ 600000) (hb : b = 0 ∨ 100 ≤ b) (hB : 32 * (F : Int) + 1 + b ≤ 20000000) (hb2 : b ≤ 1000000) (O : TOk l) (l12 : l.length ≤ 12) :
    E.call (d + 10) lim 38 [.agg C.toArray, v, .agg #[i64 F, i64 X, i64 b]] h = some (.tuple #[iV h.length (hdL l X b), .bool true], h ++ iB (hdL l X b)) := by
  by_cases z : l = []
  · subst z
    rw [c38e s t hs h0 (by omega)]
    have : hdL [] X b = [] := by unfold hdL; split <;> rfl
    simp [this, iV, iB]
  have l0 : l.length ≠ 0 := fun y => z (List.eq_nil_of_length_eq_zero y)
  obtain ⟨o, _⟩ := okt h0
  have EX : ∀ n : Nat, ∃ p : Nat × Nat, encN P S F n p.1 p.2 := fun n => by
    obtain ⟨L, H, s⟩ := encS (intX P S 48 n).1 (intX P S 48 n).2.1 (intX P S 48 n).2.2 12 (by decide) F
    exact ⟨(L, H), s⟩
  have he : ∀ n, n ≤ 87 → encN P S F n (Classical.choose (EX n)).1 (Classical.choose (EX n)).2 := fun n _ => Classical.choose_spec (EX n)
  generalize hLf : (fun n => (Classical.choose (EX n)).1) = Lf
  generalize hHf : (fun n => (Classical.choose (EX n)).2) = Hf
  have he' : ∀ n, n ≤ 87 → encN P S F n (Lf n) (Hf n) := fun n hn => by rw [← hLf, ← hHf]; exact he n hn
  have f : FrOk Lf Hf b := ⟨fun n hn => by
    obtain ⟨a1, a2, a3, a4⟩ := frq_bd o hn hF.1 hF.2 (he' n hn)
    exact ⟨a1, a2, a3, by omega⟩, by omega⟩
  have HB : ∀ i, i < l.length → ∃ B : Int × Int, B.1 ≤ B.2 ∧ (at4 l i).2.2.2 * (Lf (at4 l i).2.1.toNat : Int) - (at4 l i).2.2.1 * (Hf (at4 l i).1.toNat : Int) ≤ B.1 ∧ B.2 ≤ (at4 l i).2.2.2 * (Hf (at4 l i).2.1.toNat : Int) - (at4 l i).2.2.1 * (Lf (at4 l i).1.toNat : Int) ∧
      ∀ (d lim : Nat) (hh : Heap), SlU hh v3p [2, 3, 5] → E.call (d + 8) lim 51 [.agg C.toArray, i64 F, vT (at4 l i)] hh = some (r3 (B.1, B.2, 0), hh) := fun i hi => by
    obtain ⟨B, b1, b2, b3, b4⟩ := beat_of2 (x := at4 l i) t hs h0 (by omega) he' (O.chk i hi)
    exact ⟨B, b1, b2, b3, fun d lim hh sp => b4 d lim hh sp⟩
  have HT : ∃ bt : Nat → Int × Int, ∀ i, i < l.length → (bt i).1 ≤ (bt i).2 ∧ (at4 l i).2.2.2 * (Lf (at4 l i).2.1.toNat : Int) - (at4 l i).2.2.1 * (Hf (at4 l i).1.toNat : Int) ≤ (bt i).1 ∧ (bt i).2 ≤ (at4 l i).2.2.2 * (Hf (at4 l i).2.1.toNat : Int) - (at4 l i).2.2.1 * (Lf (at4 l i).1.toNat : Int) ∧
      ∀ (d lim : Nat) (hh : Heap), SlU hh v3p [2, 3, 5] → E.call (d + 8) lim 51 [.agg C.toArray, i64 F, vT (at4 l i)] hh = some (r3 ((bt i).1, (bt i).2, 0), hh) :=
    ⟨fun i => if hi : i < l.length then Classical.choose (HB i hi) else (0, 0), fun i hi => by
      have := Classical.choose_spec (HB i hi)
      simp only [dif_pos hi]
      exact this⟩
  obtain ⟨bt, hbt⟩ := HT
  rw [c38 (d := d) (bt := bt) (X := X) s sp t hs h0 (by omega) he' f hb2 O l12 l0 (fun i hi => ⟨(hbt i hi).1, fun lim hh q => (hbt i hi).2.2.2 d lim hh q⟩)]
  rw [fdL_eq (c := decide (b ≠ 0)) (X := X) (l := l) _ (fun i hi => fail_iff O f hb hi ⟨(hbt i hi).1, (hbt i hi).2.1, (hbt i hi).2.2.1⟩)]
  rfl
theorem law6 (lim : Nat) {h : Heap} (sp : SlU h v3p [2, 3, 5]) {C : List Value} {nm : ByteArray} {P S : Nat → Int} {F : Int} {v : Value} {l : List P4} (t : Tm C nm P S) (s : Sl4 h v l) :
    E.call 31 lim 6 [.agg C.toArray, i64 F, v] h = some (.bool true, h) := by
  have r := s.rules2
  have sp2 : ∀ L, SlU (h.freeze ++ L) v3p [2, 3, 5] := fun L => (Sl_freeze.2 sp).app L
  have k35 := fun (L : Heap) lim => c35 (d := 20) (lim := lim) (sp2 L)
  have k9 := fun lim hh => Z.c9 (d := 29) (lim := lim) (h := hh) t
  have k36 := fun lim hh => Z.c36 (d := 25) (lim := lim) (h := hh) t
  have k13 := fun (L : Heap) lim => c13 (d := 26) (lim := lim) ((Sl_freeze.2 s).app L)
  have k37 := fun lim hh => U.c37 (d := 29) (lim := lim) (h := hh) (a := F) (b := 1000) (c := 600000)
  refine call1 fn6 rfl (by simp [ef6]) ?_
  by_cases hs : nm.size ≤ 30
  case neg => simp [ef6, k35, t.len, t.take, k9, hs]
  by_cases h8 : l.length ≤ 8
  case neg =>
    have h8i : (8 : Int) < l.length := by omega
    have h8j : ¬ (l.length : Int) ≤ 8 := by omega
    simp [ef6, k35, t.len, t.take, k9, hs, r, h8i, h8j]
  have h8i : ¬ (8 : Int) < l.length := by omega
  by_cases h0 : chkT nm P S = 0
  case neg => simp [ef6, k35, t.len, t.take, k9, hs, r, h8, h8i, Nat.not_lt.2 h8, k36, h0]
  by_cases hT : chkTs l = 0
  case neg => simp [ef6, k35, t.len, t.take, k9, hs, r, h8, h8i, Nat.not_lt.2 h8, k36, h0, k13, hT]
  by_cases hw : within F 1000 600000 = true
  case neg => simp [ef6, k35, t.len, t.take, k9, hs, r, h8, h8i, Nat.not_lt.2 h8, k36, h0, k13, hT, k37, hw]
  have O := TOk.of hT
  obtain ⟨F, rfl⟩ : ∃ n : Nat, F = n := ⟨F.toNat, by simp [within] at hw; omega⟩
  have hF : 1000 ≤ F ∧ F ≤ 600000 := by simp [within] at hw; omega
  have k38 := fun (L : Heap) lim => heard (d := 20) (lim := lim) (X := -1) (b := 0) ((Sl_freeze.2 s).app L) (sp2 L) t (by omega) h0 hF (.inl rfl) (by omega) (by omega) O (by omega)
  have e0 : hdL l (-1) 0 = [] := by unfold hdL; rw [if_neg (by decide)]
  rw [e0] at k38
  simp only [iV, iB, if_true, List.append_nil] at k38
  by_cases z : l = []
  · subst z
    have k39 := fun (L : Heap) lim => c39z (d := 21) (lim := lim) ((Sl_freeze.2 s).app L)
    have k40 := fun (L : Heap) lim => c40e (d := 21) (lim := lim) ((Sl_freeze.2 s).app L)
    simp [ef6, k35, t.len, t.take, k9, hs, r, k36, h0, k13, hT, k37, hw, k38, k39, k40, Nat.add_assoc]
  have l0 : l.length ≠ 0 := fun y => z (List.eq_nil_of_length_eq_zero y)
  have k39 := fun (L : Heap) lim => c39 (d := 21) (lim := lim) ((Sl_freeze.2 s).app L) nil_own (by decide) (by omega) (cfE_nil hT) l0
  rw [suA_none O] at k39
  simp only [lV, lB, if_true, List.append_nil] at k39
  have k40 := fun (L : Heap) lim => c40z (d := 21) (lim := lim) ((Sl_freeze.2 s).app L) nil_own (by decide) (by omega) (cfE_nil hT) l0 (exE_nil l)
  by_cases q : (ntD l).length ≤ 12
  · simp only [if_pos q] at k40
    simp [ef6, k35, t.len, t.take, k9, hs, r, h8, h8i, Nat.not_lt.2 h8, k36, h0, k13, hT, k37, hw, k38, k39, k40, z, Nat.add_assoc]
  · simp only [if_neg q] at k40
    simp [ef6, k35, t.len, t.take, k9, hs, r, h8, h8i, Nat.not_lt.2 h8, k36, h0, k13, hT, k37, hw, k38, k39, k40, z, Nat.add_assoc]
end Z.U
end Go.Abs
