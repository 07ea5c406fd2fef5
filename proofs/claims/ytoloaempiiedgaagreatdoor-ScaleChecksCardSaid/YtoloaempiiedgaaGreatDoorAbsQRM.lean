--
import Derived.Test.YtoloaempiiedgaaGreatDoorAbsQUN
import Derived.Test.YtoloaempiiedgaaGreatDoorAbsQArgs
import Derived.Test.YtoloaempiiedgaaGreatDoorAbsTypM
import Derived.Test.YtoloaempiiedgaaGreatDoorAbsQBN
import Derived.Test.YtoloaempiiedgaaGreatDoorAbsQKO
import Derived.Test.YtoloaempiiedgaaGreatDoorAbsQKR
set_option linter.unusedSimpArgs false
set_option linter.unusedVariables false
namespace Go.Abs
namespace Q
set_option maxRecDepth 100000
abbrev ctWs : CT := .sl [.str, ctI, ctI, ctI]
abbrev ctUs : CT := .sl [ctI, ctI, ctI, ctI, ctI, ctI, ctI, ctI, .str, .str]
abbrev ctP : Bool × List CT := (true, [ctI, ctWs, ctUs])
def gStr : Value → ByteArray
 | .string s => s
 | _ => ⟨#[]⟩
def gInt : Value → Int
 | .int _ n => n
 | _ => 0
theorem typ_wires {d : Nat} {h : Heap} {u : Value} (a : Typ (d + 1) h ctWs u) : ∃ l : List Wi, SlW h u l := by
 obtain ⟨l, s, _, _⟩ := typ_slX (cts := [.str, ctI, ctI, ctI]) (by decide) encW (fun g => ⟨gStr (g 0), gInt (g 1), gInt (g 2), gInt (g 3)⟩) (fun _ => rfl) (d := d) (h := h) (fun g hg j hj => by
  obtain ⟨s0, e0, _⟩ := typ_str (hg 0 _ rfl)
  obtain ⟨n1, e1, _⟩ := typ_int (hg 1 _ rfl)
  obtain ⟨n2, e2, _⟩ := typ_int (hg 2 _ rfl)
  obtain ⟨n3, e3, _⟩ := typ_int (hg 3 _ rfl)
  have hj' : j < 4 := hj
  have : j = 0 ∨ j = 1 ∨ j = 2 ∨ j = 3 := by omega
  rcases this with rfl | rfl | rfl | rfl
  ·rw [e0]; rfl
  ·rw [e1]; rfl
  ·rw [e2]; rfl
  ·rw [e3]; rfl) a
 exact ⟨l, s⟩
theorem typ_unisons {d : Nat} {h : Heap} {u : Value} (a : Typ (d + 1) h ctUs u) : ∃ l : List Un, SlN h u l := by
 obtain ⟨l, s, _, _⟩ := typ_slX (cts := [ctI, ctI, ctI, ctI, ctI, ctI, ctI, ctI, .str, .str]) (by decide) encN (fun g => ⟨gInt (g 0), gInt (g 1), gInt (g 2), gInt (g 3), gInt (g 4), ⟨gInt (g 5), gInt (g 6), gInt (g 7), gStr (g 8), gStr (g 9)⟩⟩) (fun _ => rfl) (d := d) (h := h) (fun g hg j hj => by
  obtain ⟨n0, e0, _⟩ := typ_int (hg 0 _ rfl)
  obtain ⟨n1, e1, _⟩ := typ_int (hg 1 _ rfl)
  obtain ⟨n2, e2, _⟩ := typ_int (hg 2 _ rfl)
  obtain ⟨n3, e3, _⟩ := typ_int (hg 3 _ rfl)
  obtain ⟨n4, e4, _⟩ := typ_int (hg 4 _ rfl)
  obtain ⟨n5, e5, _⟩ := typ_int (hg 5 _ rfl)
  obtain ⟨n6, e6, _⟩ := typ_int (hg 6 _ rfl)
  obtain ⟨n7, e7, _⟩ := typ_int (hg 7 _ rfl)
  obtain ⟨s8, e8, _⟩ := typ_str (hg 8 _ rfl)
  obtain ⟨s9, e9, _⟩ := typ_str (hg 9 _ rfl)
  have hj' : j < 10 := hj
  have : j = 0 ∨ j = 1 ∨ j = 2 ∨ j = 3 ∨ j = 4 ∨ j = 5 ∨ j = 6 ∨ j = 7 ∨ j = 8 ∨ j = 9 := by omega
  rcases this with rfl | rfl | rfl | rfl | rfl | rfl | rfl | rfl | rfl | rfl
  ·rw [e0]; rfl
  ·rw [e1]; rfl
  ·rw [e2]; rfl
  ·rw [e3]; rfl
  ·rw [e4]; rfl
  ·rw [e5]; rfl
  ·rw [e6]; rfl
  ·rw [e7]; rfl
  ·rw [e8]; rfl
  ·rw [e9]; rfl) a
 exact ⟨l, s⟩
theorem arg_stringing {d : Nat} {h : Heap} {u : Value} (a : ArgV (d + 1) h ctP u) : ∃ t v w wl l, u = stV t v w ∧ SlW h v wl ∧ SlN h w l := by
 obtain ⟨us, rfl, hl, t⟩ := a
 match us, hl with
 | [u0, u1, u2], _ =>
  obtain ⟨x, rfl, _⟩ := typ_int (t 0 _ _ rfl rfl)
  obtain ⟨wl, s⟩ := typ_wires (t 1 _ _ rfl rfl)
  obtain ⟨l, q⟩ := typ_unisons (t 2 _ _ rfl rfl)
  exact ⟨x, u1, u2, wl, l, rfl, s, q⟩
def LawP (f : Nat) (cts : List (Bool × List CT)) : Prop := ∀ (bs : List (Option Blk)) us, Heap.freeze (([primesB] : Heap) ++ bs) = [primesB] ++ bs → (∀ n, ctBlocks (cts.flatMap (·.2)) = some n → bs.length = n) →
  ArgsV 6 (([primesB] : Heap) ++ bs) cts us → ∃ h', E.call 40 (([primesB] : Heap) ++ bs).length f us ([primesB] ++ bs) = some (.bool true, h')
end Q
end Go.Abs
namespace Go.Abs
namespace Q
set_option maxRecDepth 100000
end Q
end Go.Abs
namespace Go.Abs
namespace Q
set_option maxRecDepth 100000
abbrev ctA : Bool × List CT := (true, [ctI, ctI, ctI, ctI, .sl [ctI]])
abbrev ctC : Bool × List CT := (true, [.sl [ctI], .sl [.sl [ctI]]])
theorem typ_ints {d : Nat} {h : Heap} {u : Value} (a : Typ (d + 1) h (.sl [ctI]) u) : ∃ l : List Int, SlI' h u l := by
 have e : ∀ l : List Int, cS (fun n : Int => [Value.int .i64 n]) l = cI l := by
  intro l
  induction l with
  | nil => rfl
  | cons a r ih => unfold cS cI at ih ⊢; rw [List.flatMap_cons, ih]; rfl
 obtain ⟨l, s, _, _⟩ := typ_slG (k := 1) (by decide) (fun n : Int => [Value.int .i64 n]) (fun g => g 0) (fun _ => rfl) (fun g j hj => by
  obtain rfl : j = 0 := by omega
  rfl) a
 rw [e] at s
 exact ⟨l, s⟩
theorem typ_lists {d : Nat} {h : Heap} {u : Value} (a : Typ (d + 2) h (.sl [.sl [ctI]]) u) : ∃ n us pp, NL h u n us pp ∧ n < 2 ^ 63 := by
 obtain ⟨n, cs, s, hn, q⟩ := a
 have hs : cs.length = n := by have := s.size; simpa using this
 let us : Nat → Value := fun i => (cs[i]?).getD .nilIface
 have hu : ∀ i, i < n → cs[i]? = some (us i) := fun i hi => by
  have h0 := List.getElem?_eq_getElem (l := cs) (i := i) (by omega)
  simp only [us]; rw [h0]; rfl
 have rows : ∀ i, ∃ l : List Int, i < n → SlI' h (us i) l := fun i => by
  by_cases hi : i < n
  ·obtain ⟨l, hl⟩ := typ_ints (q i 0 _ _ hi rfl (by rw [List.length_singleton, Nat.mul_one]; exact hu i hi))
   exact ⟨l, fun _ => hl⟩
  ·exact ⟨[], fun z => absurd z hi⟩
 refine ⟨n, us, fun i => Classical.choose (rows i), ⟨?_, fun i hi => Classical.choose_spec (rows i) hi⟩, by unfold maxLen at hn; omega⟩
 have e : cs = (List.range n).map us := by
  apply List.ext_getElem?
  intro i
  by_cases hi : i < n
  ·rw [hu i hi]; simp [hi]
  ·rw [List.getElem?_eq_none (by omega)]; simp [hi]
 rw [e] at s
 exact s
theorem arg_asked {d : Nat} {h : Heap} {u : Value} (a : ArgV (d + 1) h ctA u) : ∃ L gv G, u = asV L gv ∧ SlI' h gv G := by
 obtain ⟨us, rfl, hl, t⟩ := a
 match us, hl with
 | [u0, u1, u2, u3, u4], _ =>
  obtain ⟨x0, rfl, _⟩ := typ_int (t 0 _ _ rfl rfl)
  obtain ⟨x1, rfl, _⟩ := typ_int (t 1 _ _ rfl rfl)
  obtain ⟨x2, rfl, _⟩ := typ_int (t 2 _ _ rfl rfl)
  obtain ⟨x3, rfl, _⟩ := typ_int (t 3 _ _ rfl rfl)
  obtain ⟨G, sg⟩ := typ_ints (t 4 _ _ rfl rfl)
  exact ⟨⟨x0, x1, x2, x3⟩, u4, G, rfl, sg⟩
theorem arg_choice {d : Nat} {h : Heap} {u : Value} (a : ArgV (d + 2) h ctC u) : ∃ cv pv C n us pp, u = .agg #[cv, pv] ∧ SlI' h cv C ∧ NL h pv n us pp ∧ n < 2 ^ 63 := by
 obtain ⟨vs, rfl, hl, t⟩ := a
 match vs, hl with
 | [u0, u1], _ =>
  obtain ⟨C, sc⟩ := typ_ints (d := d + 1) (t 0 _ _ rfl rfl)
  obtain ⟨n, us, pp, np, hn⟩ := typ_lists (t 1 _ _ rfl rfl)
  exact ⟨u0, u1, C, n, us, pp, rfl, sc, np, hn⟩
theorem law4 : LawP 4 [ctP, ctA, ctC] := by
 intro bs us _ _ a
 obtain ⟨v, w, z, rfl, a1, a2, a3⟩ := args3 a
 obtain ⟨t, v, w, wl, l, rfl, s, q⟩ := arg_stringing (d := 5) a1
 obtain ⟨L, gv, G, rfl, sg⟩ := arg_asked (d := 5) a2
 obtain ⟨cv, pv, C, n, us, pp, rfl, sc, np, hn⟩ := arg_choice (d := 4) a3
 exact ⟨_, c4 (d := 28) (sp1 bs) s q sg sc np hn⟩
end Q
end Go.Abs
